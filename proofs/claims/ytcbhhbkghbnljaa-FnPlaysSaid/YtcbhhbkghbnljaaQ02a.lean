/- The laws on states that last. -/
import Derived.Test.YtcbhhbkghbnljaaQ02g
import Derived.Test.YtcbhhbkghbnljaaQMark
set_option linter.unusedVariables false
set_option linter.unusedSimpArgs false
namespace Go.Proofs.Ytcbhhbkghbnljaa.Vf
open Go Go.V Go.RowKit

theorem drop_consB {L : List Bool} {i : Nat} (h : i < L.length) : L.drop i = L.getD i false :: L.drop (i + 1) := by
  rw [List.getD_eq_getElem?_getD, List.getElem?_eq_getElem h, Option.getD_some]; exact List.drop_eq_getElem_cons h

/-- The code of tasks. -/
def few (G : List Int) : Int := if isT G then (if 4000 < cnt G then 3 else 0) else 1
theorem few_zero {G : List Int} (h : few G = 0) : isT G = true ∧ cnt G ≤ 4000 := by
  unfold few at h
  cases hb : isT G with
  | false => rw [hb] at h; simp at h
  | true =>
    rw [hb] at h
    by_cases hc : 4000 < cnt G
    · simp [hc] at h
    · exact ⟨rfl, by omega⟩

def countR (G : List Int) : Int × Int := if few G = 0 then ((trues (lasting G) : Nat), 0) else (0, few G)

theorem lasting_len {G : List Int} (h : isT G = true) (hc : cnt G ≤ 4000) : ((lasting G).length : Int) = cnt G := (lasting_fix (k := 4003) h hc (Nat.le_refl _)).2

/-! ### States given -/

def stB : List Int → List Int → Bool
  | [], [] => true
  | g :: G, s :: S => decide (1 ≤ s ∧ s ≤ g) && stB G S
  | _, _ => false

theorem stB_iff : ∀ {G S : List Int}, stB G S = true ↔ Stt G S
  | [], [] => by simp [stB, Stt]
  | g :: G, s :: S => by simp [stB, Stt, stB_iff (G := G) (S := S)]
  | [], s :: S => by simp [stB, Stt]
  | g :: G, [] => by simp [stB, Stt]

theorem stB_drop {G S : List Int} {i : Nat} (h1 : i < G.length) (h2 : i < S.length) : stB (G.drop i) (S.drop i) = (decide (1 ≤ rd S i ∧ rd S i ≤ rd G i) && stB (G.drop (i + 1)) (S.drop (i + 1))) := by
  rw [drop_cons h1, drop_cons h2]; rfl

theorem stB_end {G S : List Int} {i : Nat} (h1 : i ≤ G.length) (h2 : i ≤ S.length) (h : i = G.length ∨ i = S.length) : stB (G.drop i) (S.drop i) = decide ((S.length : Int) = (G.length : Int)) := by
  rcases h with h | h
  · subst h
    rw [List.drop_length]
    by_cases e : S.length = G.length
    · rw [List.drop_eq_nil_of_le (by omega)]; simp [stB, e]
    · cases hs : S.drop G.length with
      | nil => have := List.drop_eq_nil_iff.1 hs; omega
      | cons => simp [stB]; omega
  · subst h
    rw [List.drop_length]
    by_cases e : S.length = G.length
    · rw [List.drop_eq_nil_of_le (by omega)]; simp [stB, e]
    · cases hs : G.drop S.length with
      | nil => have := List.drop_eq_nil_iff.1 hs; omega
      | cons => simp [stB]; omega

theorem isState_loop {k : Nat} {G S : List Int} (hl : S.length ≤ 1048576) (hs : S.length = G.length) : ∀ (d i n : Nat), S.length - i = d → i ≤ S.length → d < n →
    impl_Tasks_isState.l0 k n G S S.length i = some (stB (G.drop i) (S.drop i)) := by
  intro d
  induction d with
  | zero =>
    intro i n hd hi hn
    cases n with
    | zero => omega
    | succ n =>
      simp only [impl_Tasks_isState.l0, impl_Tasks_isState.s0]
      rw [if_neg (by omega), stB_end (by omega) hi (by omega)]
      simp [hs]
  | succ d ih =>
    intro i n hd hi hn
    cases n with
    | zero => omega
    | succ n =>
      simp only [impl_Tasks_isState.l0, impl_Tasks_isState.s0]
      rw [if_pos (by omega), if_pos (by omega), if_pos (by omega), if_pos (by omega), if_pos (by omega), within_f, Option.bind_some, w64n (by omega), stB_drop (by omega) (by omega)]
      by_cases hb : 1 ≤ rd S i ∧ rd S i ≤ rd G i
      · rw [if_pos (by simpa using hb), ih (i + 1) n (by omega) (by omega) (by omega)]; simp [hb]
      · rw [if_neg (by simpa using hb)]; simp only [hb, decide_false, Bool.false_and]

theorem isState_f {k : Nat} {G S : List Int} (hk : 2097152 ≤ k) (hl : S.length ≤ 1048576) : impl_Tasks_isState.f k G S = some (stB G S) := by
  unfold impl_Tasks_isState.f impl_Tasks_isState.g
  rw [length_f, Option.bind_some, many_f, Option.bind_some]
  by_cases e : S.length = G.length
  · rw [if_pos (by omega)]
    exact isState_loop hl e S.length 0 k (by omega) (by omega) (by omega)
  · rw [if_neg (by omega)]
    have := stB_end (G := G) (S := S) (i := 0) (by omega) (by omega)
    cases hb : stB G S with
    | false => rfl
    | true => exact absurd ((stB_iff.1 hb).length) e

/-- The code of tasks and a state. -/
def given (G S : List Int) : Int := if isT G then (if stB G S then (if 4000 < cnt G then 3 else 0) else 2) else 1
theorem given_zero {G S : List Int} (h : given G S = 0) : isT G = true ∧ Stt G S ∧ cnt G ≤ 4000 := by
  unfold given at h
  cases hb : isT G with
  | false => rw [hb] at h; simp at h
  | true =>
    rw [hb] at h
    cases hs : stB G S with
    | false => rw [hs] at h; simp at h
    | true =>
      rw [hs] at h
      by_cases hc : 4000 < cnt G
      · simp [hc] at h
      · exact ⟨rfl, stB_iff.1 hs, by omega⟩

def isLastR (G S : List Int) : Bool × Int := if given G S = 0 then ((lasting G).getD (num G S).toNat false, 0) else (false, given G S)

theorem impl_IsLasting_f {k : Nat} {G S : List Int} (hk : 2097152 ≤ k) (hl : G.length ≤ 1048576) (hs : S.length ≤ 1048576) : impl_IsLasting.f k G S = some (isLastR G S) := by
  unfold impl_IsLasting.f isLastR
  rw [isState_f hk hs, Option.bind_some, statesCode_f hk hl, Option.bind_some]
  by_cases hf : given G S = 0
  · obtain ⟨h, hst, hc⟩ := given_zero hf
    have hL := lasting_len h hc
    obtain ⟨b1, b2⟩ := num_bnd (isT_gp h) hst
    rw [if_pos hf]
    refine (if_pos hf).trans ?_
    rw [graphOf_f hk h hc, Option.bind_some, number_f hk h hst, Option.bind_some, if_pos b1, if_pos (by show num G S < ((lasting G).length : Int); omega)]
    rfl
  · rw [if_neg hf]
    exact if_neg hf

/-! ### The full state -/

theorem stt_self : ∀ {G : List Int}, Gp G → Stt G G
  | [], _ => trivial
  | g :: G, h => ⟨⟨h.head.1, Int.le_refl _⟩, stt_self h.tail⟩

theorem numA_self : ∀ {G : List Int} (a : Int), Gp G → numA a G G = (a + 1) * cnt G - 1
  | [], a, _ => by simp [numA, cnt]
  | g :: G, a, h => by
    show numA (a * g + g - 1) G G = (a + 1) * (g * cnt G) - 1
    rw [numA_self _ h.tail, show a * g + g - 1 + 1 = (a + 1) * g by rw [Int.add_mul]; omega, Int.mul_assoc]

theorem num_self {G : List Int} (h : Gp G) : num G G = cnt G - 1 := by
  unfold num; rw [numA_self 0 h]; omega

def canR (G : List Int) : Bool × Int := if few G = 0 then ((lasting G).getD (cnt G - 1).toNat false, 0) else (false, few G)

theorem given_self (G : List Int) : given G G = few G := by
  unfold given few
  cases hb : isT G with
  | false => rfl
  | true => rw [stB_iff.2 (stt_self (isT_gp hb))]; rfl

theorem canR_self (G : List Int) : isLastR G G = canR G := by
  unfold isLastR canR
  rw [given_self]
  by_cases hf : few G = 0
  · rw [if_pos hf, if_pos hf, num_self (isT_gp (few_zero hf).1)]
  · rw [if_neg hf, if_neg hf]

theorem l02Can_f {k : Nat} {G : List Int} (hk : 2097152 ≤ k) (h : isT G = true) (hc : cnt G ≤ 4000) : spec_l02Can.f k G = some ((lasting G).getD (cnt G - 1).toNat false) := by
  unfold spec_l02Can.f
  have hL := lasting_len h hc
  have hp := cnt_pos (isT_gp h)
  rw [l02Lasting_f hk h hc, Option.bind_some, l02Count_f hk h, Option.bind_some, w64 (by omega) (by omega), if_pos (by omega), if_pos (by omega)]
  rfl

theorem spec_CanServe_f {k : Nat} {G : List Int} (hk : 2097152 ≤ k) (hl : G.length ≤ 1048576) : spec_CanServe.f k G = some (canR G) := by
  unfold spec_CanServe.f canR
  rw [l02Few_f hk hl, Option.bind_some]
  by_cases hf : few G = 0
  · obtain ⟨h, hc⟩ := few_zero hf
    rw [if_pos hf]
    refine (if_pos hf).trans ?_
    rw [l02Can_f hk h hc]; rfl
  · rw [if_neg hf]
    exact if_neg hf

theorem impl_CanServe_f {k : Nat} {G : List Int} (hk : 2097152 ≤ k) (hl : G.length ≤ 1048576) : impl_CanServe.f k G = some (canR G) := by
  unfold impl_CanServe.f
  rw [impl_IsLasting_f hk hl hl, Option.bind_some, canR_self]

/-! ### The choices that keep -/

theorem l02Keeping_loop {k : Nat} {G S : List Int} {L : List Bool} (hk : 2097152 ≤ k) (h : isT G = true) (hL : (L.length : Int) = cnt G) (hst : Stt G S) : ∀ (d j n : Nat) (out : List Int), G.length + 1 - j = d → j ≤ G.length + 1 → d < n → out.length ≤ j →
    spec_l02Keeping.l0 k n L S G out ((j : Int) - 1) = some (out ++ (chsF j d).filter (goodC G L (num G S))) := by
  have hlen := isT_len h
  intro d
  induction d with
  | zero =>
    intro j n out hd hj hn ho
    cases n with
    | zero => omega
    | succ n =>
      simp only [spec_l02Keeping.l0, spec_l02Keeping.s0, l01K_f, Option.bind_some]
      rw [if_neg (by omega)]
      simp [chsF]
  | succ d ih =>
    intro j n out hd hj hn ho
    cases n with
    | zero => omega
    | succ n =>
      have e1 : wrap64 ((j : Int) - 1 + 1) = ((j + 1 : Nat) : Int) - 1 := by rw [w64 (by omega) (by omega)]; omega
      simp only [spec_l02Keeping.l0, spec_l02Keeping.s0, l01K_f, Option.bind_some]
      rw [if_pos (by omega), l02Step_f hk h hst, Option.bind_some, e1, chsF_succ, List.filter_cons]
      have hof := ofN_num (isT_gp h) hst
      cases hs : step G S ((j : Int) - 1) with
      | none =>
        have hg : goodC G L (num G S) ((j : Int) - 1) = false := by simp [goodC, hof, hs]
        simp only [stepR, Bool.false_eq_true, if_false, hg]
        exact ih (j + 1) n out (by omega) (by omega) (by omega) (by omega)
      | some T =>
        have b0 := step_st (isT_gp h) hst hs
        obtain ⟨b1, b2⟩ := num_bnd (isT_gp h) b0
        have hg : goodC G L (num G S) ((j : Int) - 1) = L.getD (num G T).toNat false := by simp [goodC, hof, hs]
        simp only [stepR, if_true, List.nil_append]
        rw [l02Number_f hk h b0, Option.bind_some, if_pos b1, if_pos (by omega), hg]
        cases hb : L.getD (num G T).toNat false with
        | true =>
          rw [if_pos (show rdOf false L (num G T) = true from hb)]
          simp only [if_true]
          rw [if_pos (by omega), ih (j + 1) n _ (by omega) (by omega) (by omega) (by simp; omega)]
          simp
        | false =>
          rw [if_neg (show ¬ rdOf false L (num G T) = true from by rw [show rdOf false L (num G T) = false from hb]; simp)]
          simp only [Bool.false_eq_true, if_false]
          exact ih (j + 1) n out (by omega) (by omega) (by omega) (by omega)

theorem l02Keeping_f {k : Nat} {G S : List Int} {L : List Bool} (hk : 2097152 ≤ k) (h : isT G = true) (hL : (L.length : Int) = cnt G) (hst : Stt G S) : spec_l02Keeping.f k G L S = some (keep G L (num G S)) := by
  unfold spec_l02Keeping.f spec_l02Keeping.g
  have := isT_len h
  have := l02Keeping_loop hk h hL hst (G.length + 1) 0 k [] (by omega) (by omega) (by omega) (by simp)
  rw [keep, chs_eq]
  exact this

def keepR (G S : List Int) : List Int × Int := if given G S = 0 then (if (lasting G).getD (num G S).toNat false = true then (keep G (lasting G) (num G S), 0) else ([], 5)) else ([], given G S)

theorem keep_len (G : List Int) (L : List Bool) (v : Int) : (keep G L v).length ≤ G.length + 1 := by
  unfold keep
  refine Nat.le_trans (List.length_filter_le _ _) ?_
  simp [chs]

theorem keepR_len {G S : List Int} : (keepR G S).1.length ≤ 1048576 := by
  unfold keepR
  by_cases hf : given G S = 0
  · rw [if_pos hf]
    have h1 := isT_len (given_zero hf).1
    have := keep_len G (lasting G) (num G S)
    split
    · show (keep G (lasting G) (num G S)).length ≤ _; omega
    · simp
  · rw [if_neg hf]; simp

end Go.Proofs.Ytcbhhbkghbnljaa.Vf
