/- States of tasks: their numbers, their steps, what lasts; plain lists, no program. -/
import Derived.Test.YtcbhhbkghbnljaaQBase
set_option linter.unusedVariables false
set_option linter.unusedSimpArgs false
namespace Go.Proofs.Ytcbhhbkghbnljaa.Vf
open Go Go.V Go.RowKit

/-- A list of gaps, each from 1 to 40. -/
def Gp (G : List Int) : Prop := ∀ g ∈ G, 1 ≤ g ∧ g ≤ 40
theorem Gp.tail {g : Int} {G : List Int} (h : Gp (g :: G)) : Gp G := fun x hx => h x (by simp [hx])
theorem Gp.head {g : Int} {G : List Int} (h : Gp (g :: G)) : 1 ≤ g ∧ g ≤ 40 := h g (by simp)

/-- The product of all gaps. -/
def cnt : List Int → Int
  | [] => 1
  | g :: G => g * cnt G

theorem cnt_pos : ∀ {G : List Int}, Gp G → 1 ≤ cnt G
  | [], _ => by simp [cnt]
  | g :: G, h => by
    have h1 := cnt_pos h.tail
    have h2 := h.head
    simp only [cnt]
    exact Int.le_trans h2.1 (by have := Int.mul_le_mul_of_nonneg_left h1 (show (0:Int) ≤ g by omega); simpa using this)

theorem cnt_le : ∀ {G : List Int}, Gp G → cnt G ≤ 40 ^ G.length
  | [], _ => by simp [cnt]
  | g :: G, h => by
    have h1 := cnt_le h.tail
    have h2 := h.head
    have h3 := cnt_pos h.tail
    simp only [cnt, List.length_cons, Int.pow_succ]
    rw [Int.mul_comm ((40:Int) ^ G.length)]
    exact Int.mul_le_mul h2.2 h1 (by omega) (by omega)

theorem pow40_le {n : Nat} (h : n ≤ 8) : (40 : Int) ^ n ≤ 6553600000000 := by
  have : n = 0 ∨ n = 1 ∨ n = 2 ∨ n = 3 ∨ n = 4 ∨ n = 5 ∨ n = 6 ∨ n = 7 ∨ n = 8 := by omega
  rcases this with rfl | rfl | rfl | rfl | rfl | rfl | rfl | rfl | rfl <;> decide

theorem cnt_small {G : List Int} (h : Gp G) (hl : G.length ≤ 8) : cnt G ≤ 6553600000000 := Int.le_trans (cnt_le h) (pow40_le hl)

theorem cnt_drop : ∀ {G : List Int} (i : Nat), Gp G → Gp (G.drop i)
  | G, i, h => fun x hx => h x (List.mem_of_mem_drop hx)

/-- The number of a state, from a number on. -/
def numA : Int → List Int → List Int → Int
  | a, g :: G, s :: S => numA (a * g + s - 1) G S
  | a, _, _ => a

def num (G S : List Int) : Int := numA 0 G S

/-- A state. -/
def Stt : List Int → List Int → Prop
  | [], [] => True
  | g :: G, s :: S => (1 ≤ s ∧ s ≤ g) ∧ Stt G S
  | _, _ => False

theorem Stt.length : ∀ {G S : List Int}, Stt G S → S.length = G.length
  | [], [], _ => rfl
  | g :: G, s :: S, h => by simp [Stt.length h.2]
  | [], _ :: _, h => h.elim
  | _ :: _, [], h => h.elim

theorem numA_eq : ∀ {G S : List Int} (a : Int), S.length = G.length → numA a G S = a * cnt G + numA 0 G S
  | [], [], a, _ => by simp [numA, cnt]
  | g :: G, s :: S, a, h => by
    have hl : S.length = G.length := by simpa using h
    simp only [numA, cnt]
    rw [numA_eq (a * g + s - 1) hl, numA_eq (0 * g + s - 1) hl]
    simp only [Int.add_mul, Int.sub_mul, Int.mul_assoc, Int.zero_mul, Int.one_mul]
    omega
  | [], _ :: _, _, h => by simp at h
  | _ :: _, [], _, h => by simp at h

theorem num_bnd : ∀ {G S : List Int}, Gp G → Stt G S → 0 ≤ num G S ∧ num G S < cnt G
  | [], [], _, _ => by simp [num, numA, cnt]
  | g :: G, s :: S, hG, h => by
    obtain ⟨h1, h2⟩ := num_bnd hG.tail h.2
    have hl := h.2.length
    unfold num at *
    simp only [numA, cnt]
    rw [numA_eq _ hl]
    have h3 := cnt_pos hG.tail
    have h4 : (0 * g + s - 1) * cnt G ≤ (g - 1) * cnt G := Int.mul_le_mul_of_nonneg_right (by have := h.1.2; omega) (by omega)
    have h5 : 0 ≤ (0 * g + s - 1) * cnt G := Int.mul_nonneg (by have := h.1.1; omega) (by omega)
    have h6 : (g - 1) * cnt G = g * cnt G - cnt G := by rw [Int.sub_mul, Int.one_mul]
    omega
  | [], _ :: _, _, h => h.elim
  | _ :: _, [], _, h => h.elim

/-- The state with a number, and what is left of the number. -/
def ofA : List Int → Int → List Int × Int
  | [], n => ([], n)
  | g :: G, n => (((ofA G n).2 % g + 1) :: (ofA G n).1, (ofA G n).2 / g)

def ofN (G : List Int) (n : Int) : List Int := (ofA G n).1

theorem ofA_len : ∀ (G : List Int) (n : Int), (ofA G n).1.length = G.length
  | [], _ => rfl
  | g :: G, n => by simp [ofA, ofA_len G n]

theorem ofN_len (G : List Int) (n : Int) : (ofN G n).length = G.length := ofA_len G n

theorem ofN_st : ∀ {G : List Int} (n : Int), Gp G → Stt G (ofN G n)
  | [], n, _ => trivial
  | g :: G, n, h => by
    have hg := h.head
    refine ⟨?_, ofN_st n h.tail⟩
    have := Int.emod_nonneg (ofA G n).2 (show g ≠ 0 by omega)
    have := Int.emod_lt_of_pos (ofA G n).2 (show 0 < g by omega)
    omega

theorem ofA_snd : ∀ {G : List Int} (n : Int), Gp G → (ofA G n).2 = n / cnt G
  | [], n, _ => by simp [ofA, cnt]
  | g :: G, n, h => by
    simp only [ofA, cnt]
    rw [ofA_snd n h.tail, Int.ediv_ediv_of_nonneg (by have := cnt_pos h.tail; omega), Int.mul_comm]

theorem num_ofA : ∀ {G : List Int} (n : Int), Gp G → num G (ofN G n) = n % cnt G
  | [], n, _ => by simp [num, numA, ofN, ofA, cnt]
  | g :: G, n, h => by
    have ih := num_ofA n h.tail
    have hl := ofN_len G n
    have hp := cnt_pos h.tail
    unfold num ofN at *
    simp only [numA, ofA, cnt]
    rw [numA_eq _ hl, ih, ofA_snd n h.tail]
    have e1 : (0 * g + (n / cnt G % g + 1) - 1) = n / cnt G % g := by omega
    rw [e1]
    have h1 := Int.emod_add_mul_ediv n (cnt G)
    have h2 := Int.emod_add_mul_ediv (n / cnt G) g
    have h3 := Int.emod_add_mul_ediv n (g * cnt G)
    have h4 : n / (g * cnt G) = n / cnt G / g := by rw [Int.ediv_ediv_of_nonneg (by omega), Int.mul_comm]
    rw [h4] at h3
    have h5 : g * cnt G * (n / cnt G / g) = g * (n / cnt G / g) * cnt G := by rw [Int.mul_assoc, Int.mul_comm (cnt G), ← Int.mul_assoc]
    have h6 : cnt G * (n / cnt G) = (n / cnt G) * cnt G := Int.mul_comm _ _
    rw [h5] at h3
    have h7 : (n / cnt G) * cnt G = (n / cnt G % g) * cnt G + g * (n / cnt G / g) * cnt G := by rw [← Int.add_mul, h2]
    omega

theorem num_ofN {G : List Int} {n : Int} (h : Gp G) (h0 : 0 ≤ n) (h1 : n < cnt G) : num G (ofN G n) = n := by
  rw [num_ofA n h, Int.emod_eq_of_lt h0 h1]

theorem st_eq : ∀ {G S S' : List Int}, Gp G → Stt G S → Stt G S' → num G S = num G S' → S = S'
  | [], [], [], _, _, _, _ => rfl
  | g :: G, s :: S, s' :: S', hG, h, h', e => by
    have hp := cnt_pos hG.tail
    obtain ⟨a1, a2⟩ := num_bnd hG.tail h.2
    obtain ⟨b1, b2⟩ := num_bnd hG.tail h'.2
    unfold num at *
    simp only [numA] at e
    rw [numA_eq _ h.2.length, numA_eq _ h'.2.length] at e
    have hs : s = s' := by
      rcases Int.lt_trichotomy s s' with hlt | rfl | hlt
      · exfalso
        have : (0 * g + s - 1 + 1) * cnt G ≤ (0 * g + s' - 1) * cnt G := Int.mul_le_mul_of_nonneg_right (by omega) (by omega)
        rw [Int.add_mul, Int.one_mul] at this
        omega
      · rfl
      · exfalso
        have : (0 * g + s' - 1 + 1) * cnt G ≤ (0 * g + s - 1) * cnt G := Int.mul_le_mul_of_nonneg_right (by omega) (by omega)
        rw [Int.add_mul, Int.one_mul] at this
        omega
    subst hs
    rw [st_eq hG.tail h.2 h'.2 (by unfold num; omega)]
  | [], _ :: _, _, _, h, _, _ => h.elim
  | [], [], _ :: _, _, _, h, _ => h.elim
  | _ :: _, [], _, _, h, _, _ => h.elim
  | _ :: _, _ :: _, [], _, _, h, _ => h.elim

theorem ofN_num {G S : List Int} (h : Gp G) (hs : Stt G S) : ofN G (num G S) = S :=
  st_eq h (ofN_st _ h) hs (num_ofN h (num_bnd h hs).1 (num_bnd h hs).2)

/-- The state behind a choice. -/
def stepA (c : Int) : Int → List Int → List Int → Option (List Int)
  | j, g :: G, x :: S => if j = c then (stepA c (j + 1) G S).map (g :: ·) else if x < 2 then none else (stepA c (j + 1) G S).map ((x - 1) :: ·)
  | _, _, _ => some []

def step (G S : List Int) (c : Int) : Option (List Int) := stepA c 0 G S

theorem stepA_st {c : Int} : ∀ {j : Int} {G S T : List Int}, Gp G → Stt G S → stepA c j G S = some T → Stt G T
  | j, [], [], T, _, _, h => by simp [stepA] at h; subst h; trivial
  | j, g :: G, x :: S, T, hG, hs, h => by
    simp only [stepA] at h
    split at h
    · obtain ⟨T', h1, rfl⟩ := Option.map_eq_some_iff.1 h
      exact ⟨⟨(hG.head).1, Int.le_refl _⟩, stepA_st hG.tail hs.2 h1⟩
    · split at h
      · cases h
      · obtain ⟨T', h1, rfl⟩ := Option.map_eq_some_iff.1 h
        have := hs.1
        exact ⟨by omega, stepA_st hG.tail hs.2 h1⟩
  | j, [], _ :: _, _, _, h, _ => h.elim
  | j, _ :: _, [], _, _, h, _ => h.elim

theorem step_st {G S T : List Int} {c : Int} (hG : Gp G) (hs : Stt G S) (h : step G S c = some T) : Stt G T := stepA_st hG hs h

/-- All choices of so many tasks, ascending. -/
def chs (m : Nat) : List Int := (List.range (m + 1)).map fun i : Nat => (i : Int) - 1

/-- Whether a choice in a state leads to one that is left. -/
def goodC (G : List Int) (L : List Bool) (n : Int) (c : Int) : Bool :=
  match step G (ofN G n) c with
  | some T => L.getD (num G T).toNat false
  | none => false

def keep (G : List Int) (L : List Bool) (n : Int) : List Int := (chs G.length).filter (goodC G L n)

/-! ### Sweeps -/

/-- One sweep from a place on. -/
def swp (good : List Bool → Nat → Bool) : Nat → Nat → List Bool → Bool → List Bool × Bool
  | 0, _, L, ch => (L, ch)
  | d + 1, i, L, ch => if L.getD i false = true then (if good L i = true then swp good d (i + 1) L ch else swp good d (i + 1) (L.set i false) true) else swp good d (i + 1) L ch

/-- Sweeps until nothing changes. -/
def fixO (good : List Bool → Nat → Bool) : Nat → List Bool → Bool → Option (List Bool)
  | 0, _, _ => none
  | n + 1, L, ch => match ch with
    | true => fixO good n (swp good L.length 0 L false).1 (swp good L.length 0 L false).2
    | false => some L

theorem swp_len (good : List Bool → Nat → Bool) : ∀ (d i : Nat) (L : List Bool) (ch : Bool), (swp good d i L ch).1.length = L.length
  | 0, _, _, _ => rfl
  | d + 1, i, L, ch => by
    simp only [swp]
    split
    · split
      · exact swp_len good d _ _ _
      · rw [swp_len good d]; simp
    · exact swp_len good d _ _ _

def trues (L : List Bool) : Nat := (L.filter (· = true)).length

theorem trues_set : ∀ {L : List Bool} {i : Nat}, L.getD i false = true → trues (L.set i false) + 1 = trues L
  | [], i, h => by simp at h
  | b :: L, 0, h => by
    have : b = true := by simpa using h
    subst this
    simp [trues]
  | b :: L, i + 1, h => by
    have ih := trues_set (L := L) (i := i) (by simpa using h)
    unfold trues at *
    cases b <;> simp [List.filter_cons] at * <;> omega

theorem swp_less (good : List Bool → Nat → Bool) : ∀ (d i : Nat) (L : List Bool) (ch : Bool), trues (swp good d i L ch).1 ≤ trues L ∧ ((swp good d i L ch).2 = true → ch = true ∨ trues (swp good d i L ch).1 < trues L)
  | 0, _, _, _ => ⟨Nat.le_refl _, fun h => .inl h⟩
  | d + 1, i, L, ch => by
    simp only [swp]
    split
    · rename_i h1
      split
      · exact swp_less good d _ _ _
      · have := swp_less good d (i + 1) (L.set i false) true
        have h3 := trues_set h1
        exact ⟨by omega, fun _ => .inr (by omega)⟩
    · exact swp_less good d _ _ _

theorem fix_some (good : List Bool → Nat → Bool) : ∀ (n : Nat) (L : List Bool) (ch : Bool), trues L + 1 < n → ∃ L', fixO good n L ch = some L' ∧ L'.length = L.length
  | 0, L, ch, h => by omega
  | n + 1, L, ch, h => by
    cases ch with
    | false => exact ⟨L, rfl, rfl⟩
    | true =>
      simp only [fixO]
      obtain ⟨h1, h2⟩ := swp_less good L.length 0 L false
      cases hc : (swp good L.length 0 L false).2 with
      | false =>
        cases n with
        | zero => omega
        | succ n => exact ⟨_, rfl, swp_len _ _ _ _ _⟩
      | true =>
        rcases h2 hc with h3 | h3
        · cases h3
        · obtain ⟨L', h4, h5⟩ := fix_some good n (swp good L.length 0 L false).1 true (by omega)
          exact ⟨L', h4, h5.trans (swp_len _ _ _ _ _)⟩

theorem trues_le (L : List Bool) : trues L ≤ L.length := List.length_filter_le _ _

theorem swp_congr {good good' : List Bool → Nat → Bool} {m : Nat} (h : ∀ L i, L.length = m → good L i = good' L i) : ∀ (d i : Nat) (L : List Bool) (ch : Bool), L.length = m → swp good d i L ch = swp good' d i L ch
  | 0, _, _, _, _ => rfl
  | d + 1, i, L, ch, hl => by
    simp only [swp, h L i hl]
    rw [swp_congr h d (i + 1) L ch hl, swp_congr h d (i + 1) (L.set i false) true (by simpa using hl)]

/-- What lasts. -/
def lasting (G : List Int) : List Bool := (fixO (fun L i => (keep G L i) != []) 4003 (List.replicate (cnt G).toNat true) true).getD []

end Go.Proofs.Ytcbhhbkghbnljaa.Vf
