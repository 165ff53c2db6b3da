/- The laws on what is safe: how many there are, whether one can start, the first route. -/
import Derived.Test.YtcbhhbkghbnljaaQ09s
set_option linter.unusedVariables false
set_option linter.unusedSimpArgs false
namespace Go.Proofs.Ytcbhhbkghbnljaa.Vf
open Go Go.V Go.RowKit

noncomputable def countW (p r : Int) (G : List Int) : Int × Int := if codeW p r G = 0 then ((trues (safe r G) : Nat), 0) else (0, codeW p r G)

theorem safe_len {p r : Int} {G : List Int} (W : Wt p r G) : (safe r G).length = allW G := (safe_fix W (k := 20003) (Nat.le_refl _)).2

/-! ### The start -/

/-- The full state at a place. -/
def wholeN (G : List Int) (t : Nat) : Int := (cnt G - 1) * (G.length : Int) + t

noncomputable def beginF (r : Int) (G : List Int) (j d : Nat) : Option Int := ((List.range' j d).find? fun t : Nat => (safe r G).getD (wholeN G t).toNat false).map fun t : Nat => wholeN G t

theorem beginF_succ (r : Int) (G : List Int) (j d : Nat) : beginF r G j (d + 1) = if (safe r G).getD (wholeN G j).toNat false = true then some (wholeN G j) else beginF r G (j + 1) d := by
  unfold beginF
  rw [List.range'_succ, List.find?_cons]
  cases (safe r G).getD (wholeN G j).toNat false <;> rfl

theorem whole_bnd {p r : Int} {G : List Int} (W : Wt p r G) {t : Nat} (ht : t < G.length) : 0 ≤ wholeN G t ∧ wholeN G t < cnt G * (G.length : Int) := by
  have h1 := W.c
  unfold wholeN
  have h2 : 0 ≤ (cnt G - 1) * (G.length : Int) := Int.mul_nonneg (by omega) (by omega)
  have h3 : (cnt G - 1) * (G.length : Int) = cnt G * (G.length : Int) - (G.length : Int) := by rw [Int.sub_mul, Int.one_mul]
  omega

theorem begin_loop {k : Nat} {p r : Int} {G : List Int} (W : Wt p r G) (hk : 2097152 ≤ k) : ∀ (d j n : Nat), G.length - j = d → j ≤ G.length → d < n →
    spec_l09Begin.l0 k n (safe r G) p r G j = some ((beginF r G j d).getD (-1)) := by
  have hl := isT_len W.t
  have hwl := W.l
  have hw := W.all
  have hL := safe_len W
  intro d
  induction d with
  | zero =>
    intro j n hd hj hn
    cases n with
    | zero => omega
    | succ n =>
      simp only [spec_l09Begin.l0, spec_l09Begin.s0]
      rw [if_neg (by omega)]
      rfl
  | succ d ih =>
    intro j n hd hj hn
    cases n with
    | zero => omega
    | succ n =>
      obtain ⟨b1, b2⟩ := whole_bnd W (t := j) (by omega)
      simp only [spec_l09Begin.l0, spec_l09Begin.s0]
      rw [if_pos (by omega), l09Number_f hk W.t (stt_self (isT_gp W.t)) (by omega) (by omega), Option.bind_some, num_self (isT_gp W.t), show (cnt G - 1) * (G.length : Int) + (j : Int) = wholeN G j from rfl, if_pos b1, if_pos (by omega), beginF_succ, w64n (by omega)]
      by_cases h : (safe r G).getD (wholeN G j).toNat false = true
      · rw [if_pos h]; exact if_pos h
      · rw [if_neg h]
        refine (if_neg h).trans ?_
        exact ih (j + 1) n (by omega) (by omega) (by omega)

theorem begin_f {k : Nat} {p r : Int} {G : List Int} (W : Wt p r G) (hk : 2097152 ≤ k) : spec_l09Begin.f k p r G (safe r G) = some ((beginF r G 0 G.length).getD (-1)) := by
  unfold spec_l09Begin.f spec_l09Begin.g
  have hl := isT_len W.t
  exact begin_loop W hk G.length 0 k (by omega) (by omega) (by omega)

theorem wholeW_f {k : Nat} {p r : Int} {G : List Int} (W : Wt p r G) (hk : 2097152 ≤ k) (X : List (List Int)) (L : List Bool) {t : Nat} (ht : t < G.length) : impl_watch_whole.f k ((p, r), G, X, L) t = some (wholeN G t) := by
  unfold impl_watch_whole.f
  have h1 := W.c
  have hw := W.all
  have hwl := W.l
  have hl := isT_len W.t
  obtain ⟨b1, b2⟩ := whole_bnd W ht
  have h2 : 0 ≤ (cnt G - 1) * (G.length : Int) := Int.mul_nonneg (by omega) (by omega)
  unfold wholeN at b1 b2
  simp only
  rw [states_f hk W.t, Option.bind_some, ← hwl, w64 (x := cnt G - 1) (by omega) (by omega), w64 (x := (cnt G - 1) * (G.length : Int)) (by omega) (by omega), w64 (by omega) (by omega)]
  rfl

theorem start_loop {k : Nat} {p r : Int} {G : List Int} {X : List (List Int)} (W : Wt p r G) (hk : 2097152 ≤ k) : ∀ (d j n : Nat), G.length - j = d → j ≤ G.length → d < n →
    impl_watch_start.l0 k n ((p, r), G, X, safe r G) p j = some ((beginF r G j d).getD (-1)) := by
  have hl := isT_len W.t
  have hwl := W.l
  have hw := W.all
  have hL := safe_len W
  intro d
  induction d with
  | zero =>
    intro j n hd hj hn
    cases n with
    | zero => omega
    | succ n =>
      simp only [impl_watch_start.l0, impl_watch_start.s0]
      rw [if_neg (by omega)]
      rfl
  | succ d ih =>
    intro j n hd hj hn
    cases n with
    | zero => omega
    | succ n =>
      obtain ⟨b1, b2⟩ := whole_bnd W (t := j) (by omega)
      simp only [impl_watch_start.l0, impl_watch_start.s0]
      rw [if_pos (by omega), wholeW_f W hk _ _ (by omega), Option.bind_some, Option.bind_some, if_pos b1, if_pos (by omega), beginF_succ, w64n (by omega)]
      by_cases h : (safe r G).getD (wholeN G j).toNat false = true
      · rw [if_pos h]; exact if_pos h
      · rw [if_neg h]
        refine (if_neg h).trans ?_
        exact ih (j + 1) n (by omega) (by omega) (by omega)

theorem start_f {k : Nat} {p r : Int} {G : List Int} (W : Wt p r G) (hk : 2097152 ≤ k) (X : List (List Int)) : impl_watch_start.f k ((p, r), G, X, safe r G) = some ((beginF r G 0 G.length).getD (-1)) := by
  unfold impl_watch_start.f impl_watch_start.g
  have hl := isT_len W.t
  exact start_loop W hk G.length 0 k (by omega) (by omega) (by omega)

noncomputable def canW (p r : Int) (G : List Int) : Bool × Int := if codeW p r G = 0 then (decide (0 ≤ (beginF r G 0 G.length).getD (-1)), 0) else (false, codeW p r G)

theorem impl_CanWatch_f {k : Nat} {p r : Int} {G : List Int} (hk : 2097152 ≤ k) (hl : G.length ≤ 1048576) : impl_CanWatch.f k p r G = some (canW p r G) := by
  unfold impl_CanWatch.f canW
  rw [watched_f hk hl, Option.bind_some]
  unfold watchedR
  by_cases hf : codeW p r G = 0
  · have W := codeW_zero hf
    rw [if_pos hf, if_pos hf, if_pos rfl, Option.bind_some, start_f W hk, Option.bind_some]
  · rw [if_neg hf, if_neg hf, if_neg hf]

end Go.Proofs.Ytcbhhbkghbnljaa.Vf
