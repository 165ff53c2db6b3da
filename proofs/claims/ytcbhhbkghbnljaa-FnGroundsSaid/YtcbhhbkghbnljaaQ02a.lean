/- The laws on states that last. -/
import Derived.Test.YtcbhhbkghbnljaaQ02g
import Derived.Test.YtcbhhbkghbnljaaQMark
set_option linter.unusedVariables false
set_option linter.unusedSimpArgs false
namespace Go.Proofs.Ytcbhhbkghbnljaa.Vf
open Go Go.V Go.RowKit

theorem drop_consB {L : List Bool} {i : Nat} (h : i < L.length) : L.drop i = L.getD i false :: L.drop (i + 1) := by
  rw [List.getD_eq_getElem?_getD, List.getElem?_eq_getElem h, Option.getD_some]; exact List.drop_eq_getElem_cons h

/-- The code of tasks. -/
def few (G : List Int) : Int := if isT G then (if 4000 < cnt G then 3 else 0) else 1
theorem few_zero {G : List Int} (h : few G = 0) : isT G = true ∧ cnt G ≤ 4000 := by
  unfold few at h
  cases hb : isT G with
  | false => rw [hb] at h; simp at h
  | true =>
    rw [hb] at h
    by_cases hc : 4000 < cnt G
    · simp [hc] at h
    · exact ⟨rfl, by omega⟩

def countR (G : List Int) : Int × Int := if few G = 0 then ((trues (lasting G) : Nat), 0) else (0, few G)

theorem lasting_len {G : List Int} (h : isT G = true) (hc : cnt G ≤ 4000) : ((lasting G).length : Int) = cnt G := (lasting_fix (k := 4003) h hc (Nat.le_refl _)).2

/-! ### States given -/

def stB : List Int → List Int → Bool
  | [], [] => true
  | g :: G, s :: S => decide (1 ≤ s ∧ s ≤ g) && stB G S
  | _, _ => false

theorem stB_iff : ∀ {G S : List Int}, stB G S = true ↔ Stt G S
  | [], [] => by simp [stB, Stt]
  | g :: G, s :: S => by simp [stB, Stt, stB_iff (G := G) (S := S)]
  | [], s :: S => by simp [stB, Stt]
  | g :: G, [] => by simp [stB, Stt]

theorem stB_drop {G S : List Int} {i : Nat} (h1 : i < G.length) (h2 : i < S.length) : stB (G.drop i) (S.drop i) = (decide (1 ≤ rd S i ∧ rd S i ≤ rd G i) && stB (G.drop (i + 1)) (S.drop (i + 1))) := by
  rw [drop_cons h1, drop_cons h2]; rfl

theorem stB_end {G S : List Int} {i : Nat} (h1 : i ≤ G.length) (h2 : i ≤ S.length) (h : i = G.length ∨ i = S.length) : stB (G.drop i) (S.drop i) = decide ((S.length : Int) = (G.length : Int)) := by
  rcases h with h | h
  · subst h
    rw [List.drop_length]
    by_cases e : S.length = G.length
    · rw [List.drop_eq_nil_of_le (by omega)]; simp [stB, e]
    · cases hs : S.drop G.length with
      | nil => have := List.drop_eq_nil_iff.1 hs; omega
      | cons => simp [stB]; omega
  · subst h
    rw [List.drop_length]
    by_cases e : S.length = G.length
    · rw [List.drop_eq_nil_of_le (by omega)]; simp [stB, e]
    · cases hs : G.drop S.length with
      | nil => have := List.drop_eq_nil_iff.1 hs; omega
      | cons => simp [stB]; omega

/-- The code of tasks and a state. -/
def given (G S : List Int) : Int := if isT G then (if stB G S then (if 4000 < cnt G then 3 else 0) else 2) else 1
theorem given_zero {G S : List Int} (h : given G S = 0) : isT G = true ∧ Stt G S ∧ cnt G ≤ 4000 := by
  unfold given at h
  cases hb : isT G with
  | false => rw [hb] at h; simp at h
  | true =>
    rw [hb] at h
    cases hs : stB G S with
    | false => rw [hs] at h; simp at h
    | true =>
      rw [hs] at h
      by_cases hc : 4000 < cnt G
      · simp [hc] at h
      · exact ⟨rfl, stB_iff.1 hs, by omega⟩

def isLastR (G S : List Int) : Bool × Int := if given G S = 0 then ((lasting G).getD (num G S).toNat false, 0) else (false, given G S)

/-! ### The full state -/

theorem stt_self : ∀ {G : List Int}, Gp G → Stt G G
  | [], _ => trivial
  | g :: G, h => ⟨⟨h.head.1, Int.le_refl _⟩, stt_self h.tail⟩

theorem numA_self : ∀ {G : List Int} (a : Int), Gp G → numA a G G = (a + 1) * cnt G - 1
  | [], a, _ => by simp [numA, cnt]
  | g :: G, a, h => by
    show numA (a * g + g - 1) G G = (a + 1) * (g * cnt G) - 1
    rw [numA_self _ h.tail, show a * g + g - 1 + 1 = (a + 1) * g by rw [Int.add_mul]; omega, Int.mul_assoc]

theorem num_self {G : List Int} (h : Gp G) : num G G = cnt G - 1 := by
  unfold num; rw [numA_self 0 h]; omega

def canR (G : List Int) : Bool × Int := if few G = 0 then ((lasting G).getD (cnt G - 1).toNat false, 0) else (false, few G)

theorem given_self (G : List Int) : given G G = few G := by
  unfold given few
  cases hb : isT G with
  | false => rfl
  | true => rw [stB_iff.2 (stt_self (isT_gp hb))]; rfl

theorem canR_self (G : List Int) : isLastR G G = canR G := by
  unfold isLastR canR
  rw [given_self]
  by_cases hf : few G = 0
  · rw [if_pos hf, if_pos hf, num_self (isT_gp (few_zero hf).1)]
  · rw [if_neg hf, if_neg hf]

/-! ### The choices that keep -/

def keepR (G S : List Int) : List Int × Int := if given G S = 0 then (if (lasting G).getD (num G S).toNat false = true then (keep G (lasting G) (num G S), 0) else ([], 5)) else ([], given G S)

theorem keep_len (G : List Int) (L : List Bool) (v : Int) : (keep G L v).length ≤ G.length + 1 := by
  unfold keep
  refine Nat.le_trans (List.length_filter_le _ _) ?_
  simp [chs]

theorem keepR_len {G S : List Int} : (keepR G S).1.length ≤ 1048576 := by
  unfold keepR
  by_cases hf : given G S = 0
  · rw [if_pos hf]
    have h1 := isT_len (given_zero hf).1
    have := keep_len G (lasting G) (num G S)
    split
    · show (keep G (lasting G) (num G S)).length ≤ _; omega
    · simp
  · rw [if_neg hf]; simp

end Go.Proofs.Ytcbhhbkghbnljaa.Vf
