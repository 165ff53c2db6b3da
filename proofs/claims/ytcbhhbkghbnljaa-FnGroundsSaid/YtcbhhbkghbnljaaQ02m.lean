/- The least gap: wider gaps serve where narrower ones do. -/
import Derived.Test.YtcbhhbkghbnljaaQ02p
set_option linter.unusedVariables false
set_option linter.unusedSimpArgs false
namespace Go.Proofs.Ytcbhhbkghbnljaa.Vf
open Go Go.V Go.RowKit

/-! ### What lasts is the greatest -/

theorem getD_set_ne {L : List Bool} {i j : Nat} {b : Bool} (h : i ≠ j) : (L.set i b).getD j false = L.getD j false := by
  rw [List.getD_eq_getElem?_getD, List.getD_eq_getElem?_getD, List.getElem?_set_ne h]

theorem swp_sup {g : List Bool → Nat → Bool} {X : Nat → Prop} (hg : ∀ L, (∀ v, X v → L.getD v false = true) → ∀ v, X v → g L v = true) : ∀ (d i : Nat) (L : List Bool) (ch : Bool), (∀ v, X v → L.getD v false = true) → ∀ v, X v → (swp g d i L ch).1.getD v false = true
  | 0, i, L, ch, h => h
  | d + 1, i, L, ch, h => by
    by_cases hb : L.getD i false = true
    · by_cases hgg : g L i = true
      · rw [swp_good hb hgg]; exact swp_sup hg d (i + 1) L ch h
      · rw [swp_bad hb hgg]
        refine swp_sup hg d (i + 1) _ true fun v hv => ?_
        rw [getD_set_ne (fun e => hgg (by rw [e]; exact hg L h v hv))]
        exact h v hv
    · rw [swp_end _ _ _ _ _ hb]; exact swp_sup hg d (i + 1) L ch h

theorem fix_sup {g : List Bool → Nat → Bool} {X : Nat → Prop} (hg : ∀ L, (∀ v, X v → L.getD v false = true) → ∀ v, X v → g L v = true) : ∀ (n : Nat) (L L' : List Bool) (ch : Bool), fixO g n L ch = some L' → (∀ v, X v → L.getD v false = true) → ∀ v, X v → L'.getD v false = true
  | 0, _, _, _, h, _ => by cases h
  | n + 1, L, L', false, h, hx => by
    obtain rfl : L = L' := by simpa [fixO] using h
    exact hx
  | n + 1, L, L', true, h, hx => by
    have h' : fixO g n (swp g L.length 0 L false).1 (swp g L.length 0 L false).2 = some L' := by simpa [fixO] using h
    exact fix_sup hg n _ L' _ h' (swp_sup hg _ _ _ _ hx)

theorem lasting_sup {G : List Int} (h : isT G = true) (hc : cnt G ≤ 4000) {X : Nat → Prop} (hX : ∀ v, X v → (v : Int) < cnt G) (hg : ∀ v, X v → ∃ c T, c ∈ chs G.length ∧ step G (ofN G (v : Int)) c = some T ∧ X (num G T).toNat) : ∀ v, X v → (lasting G).getD v false = true := by
  obtain ⟨h1, _⟩ := lasting_fix (k := 4003) h hc (Nat.le_refl _)
  refine fix_sup (g := goodK G) (X := X) (fun L hL v hv => ?_) 4003 _ _ true h1 (fun v hv => ?_)
  · obtain ⟨c, T, hc1, hs, hx⟩ := hg v hv
    refine goodK_t fun e => ?_
    have : c ∈ keep G L v := List.mem_filter.2 ⟨hc1, by simp only [goodC, hs]; exact hL _ hx⟩
    rw [e] at this
    exact absurd this (by simp)
  · have := hX v hv
    rw [List.getD_eq_getElem?_getD, List.getElem?_replicate, if_pos (by omega)]; rfl

/-! ### Wider -/

def LeL : List Int → List Int → Prop
  | [], [] => True
  | a :: A, b :: B => a ≤ b ∧ LeL A B
  | _, _ => False

theorem LeL.length : ∀ {A B : List Int}, LeL A B → A.length = B.length
  | [], [], _ => rfl
  | a :: A, b :: B, h => by simp [LeL.length h.2]
  | [], _ :: _, h => h.elim
  | _ :: _, [], h => h.elim

theorem LeL.rfl' : ∀ {A : List Int}, LeL A A
  | [] => trivial
  | a :: A => ⟨Int.le_refl _, LeL.rfl'⟩

theorem LeL.set : ∀ {A : List Int} {i : Nat} {x y : Int}, x ≤ y → LeL (A.set i x) (A.set i y)
  | [], i, x, y, h => trivial
  | a :: A, 0, x, y, h => ⟨h, LeL.rfl'⟩
  | a :: A, i + 1, x, y, h => ⟨Int.le_refl _, LeL.set (A := A) (i := i) h⟩

theorem LeL.cnt : ∀ {A B : List Int}, Gp A → LeL A B → cnt A ≤ cnt B
  | [], [], _, _ => Int.le_refl _
  | a :: A, b :: B, hA, h => by
    have h1 := LeL.cnt hA.tail h.2
    have h2 := hA.head
    have h3 := h.1
    have h4 := cnt_pos hA.tail
    show a * Vf.cnt A ≤ b * Vf.cnt B
    exact Int.mul_le_mul h.1 h1 (by omega) (by omega)
  | [], _ :: _, _, h => h.elim
  | _ :: _, [], _, h => h.elim

theorem stepA_wide {c : Int} : ∀ {j : Int} {G G' S S' T : List Int}, LeL G G' → LeL S S' → stepA c j G S = some T → ∃ T', stepA c j G' S' = some T' ∧ LeL T T'
  | j, [], [], S, S', T, _, _, h => by simp [stepA] at h; subst h; exact ⟨[], rfl, trivial⟩
  | j, g :: G, g' :: G', [], [], T, _, _, h => by simp [stepA] at h; subst h; exact ⟨[], rfl, trivial⟩
  | j, g :: G, g' :: G', s :: S, s' :: S', T, hG, hS, h => by
    simp only [stepA] at h ⊢
    have hs := hS.1
    have hg := hG.1
    by_cases e : j = c
    · rw [if_pos e] at h ⊢
      obtain ⟨T1, h1, rfl⟩ := Option.map_eq_some_iff.1 h
      obtain ⟨T2, h2, h3⟩ := stepA_wide hG.2 hS.2 h1
      rw [h2]
      exact ⟨_, rfl, hg, h3⟩
    · rw [if_neg e] at h ⊢
      by_cases e2 : s < 2
      · rw [if_pos e2] at h; cases h
      · rw [if_neg e2] at h
        rw [if_neg (by omega)]
        obtain ⟨T1, h1, rfl⟩ := Option.map_eq_some_iff.1 h
        obtain ⟨T2, h2, h3⟩ := stepA_wide hG.2 hS.2 h1
        rw [h2]
        exact ⟨_, rfl, by omega, h3⟩
  | j, [], _ :: _, _, _, _, h, _, _ => h.elim
  | j, _ :: _, [], _, _, _, h, _, _ => h.elim
  | j, _ :: _, _ :: _, [], _ :: _, _, _, h, _ => h.elim
  | j, _ :: _, _ :: _, _ :: _, [], _, _, h, _ => h.elim

/-- Whether the full state lasts. -/
def canB (G : List Int) : Bool := (lasting G).getD (cnt G - 1).toNat false

theorem can_wide {G G' : List Int} (h : isT G = true) (h' : isT G' = true) (hl : LeL G G') (hc : cnt G ≤ 4000) (hc' : cnt G' ≤ 4000) (hb : canB G = true) : canB G' = true := by
  have hG := isT_gp h
  have hG' := isT_gp h'
  have hp' := cnt_pos hG'
  have key := lasting_sup h' hc' (X := fun v => (v : Int) < cnt G' ∧ ∃ S, Stt G S ∧ (lasting G).getD (num G S).toNat false = true ∧ LeL S (ofN G' (v : Int))) (fun v hv => hv.1) (by
    rintro v ⟨hv, S, hS, hSl, hle⟩
    obtain ⟨b1, b2⟩ := num_bnd hG hS
    obtain ⟨c, T, hk, hr, hs, hT, n1, n2, hTl, _⟩ := keep_next h hc b1 b2 hSl
    rw [ofN_num hG hS] at hs
    obtain ⟨T', hs', hTT⟩ := stepA_wide hl hle hs
    have hT' := step_st hG' (ofN_st (v : Int) hG') hs'
    obtain ⟨m1, m2⟩ := num_bnd hG' hT'
    have hcm : c ∈ chs G.length := by
      have hm : c ∈ keep G (lasting G) (num G S) := by
        rw [← hr]
        exact rd_mem (l := keep G (lasting G) (num G S)) (i := 0) hk
      exact (List.mem_filter.1 hm).1
    refine ⟨c, T', by rw [← hl.length]; exact hcm, hs', by omega, T, hT, hTl, ?_⟩
    rw [show (((num G' T').toNat : Nat) : Int) = num G' T' by omega, ofN_num hG' hT']
    exact hTT)
  unfold canB
  refine key _ ⟨by omega, G, stt_self hG, by rw [num_self hG]; exact hb, ?_⟩
  rw [show (((cnt G' - 1).toNat : Nat) : Int) = cnt G' - 1 by omega, ofN_full h']
  exact hl

/-! ### The least gap -/

theorem isT_set {G : List Int} {t : Nat} {y : Int} (h : isT G = true) (h1 : 1 ≤ y) (h2 : y ≤ 40) : isT (G.set t y) = true := by
  obtain ⟨a, b⟩ := isT_iff.1 h
  refine isT_iff.2 ⟨by simpa using a, fun g hg => ?_⟩
  rcases List.mem_or_eq_of_mem_set hg with hg | rfl
  · exact b g hg
  · exact ⟨h1, h2⟩

theorem set_self {G : List Int} {t : Nat} (ht : t < G.length) : G.set t (rd G t) = G := by
  rw [rd_lt ht]; exact List.set_getElem_self ht

/-- One of the gaps made another. -/
structure Gap (G : List Int) (t : Nat) : Prop where
  h : isT G = true
  hc : cnt G ≤ 4000
  ht : t < G.length

theorem Gap.bnd {G : List Int} {t : Nat} (I : Gap G t) : 1 ≤ rd G t ∧ rd G t ≤ 40 := (isT_iff.1 I.h).2 _ (rd_mem I.ht)

theorem Gap.isT {G : List Int} {t : Nat} (I : Gap G t) {y : Int} (h1 : 1 ≤ y) (h2 : y ≤ rd G t) : Vf.isT (G.set t y) = true := isT_set I.h h1 (by have := I.bnd; omega)

theorem Gap.cnt {G : List Int} {t : Nat} (I : Gap G t) {y : Int} (h1 : 1 ≤ y) (h2 : y ≤ rd G t) : Vf.cnt (G.set t y) ≤ 4000 := by
  have := LeL.cnt (isT_gp (I.isT h1 h2)) (LeL.set (A := G) (i := t) h2)
  rw [set_self I.ht] at this
  exact Int.le_trans this I.hc

theorem Gap.can {G : List Int} {t : Nat} (I : Gap G t) {y z : Int} (h1 : 1 ≤ y) (h2 : y ≤ z) (h3 : z ≤ rd G t) (h : canB (G.set t y) = true) : canB (G.set t z) = true :=
  can_wide (I.isT h1 (by omega)) (I.isT (by omega) h3) (LeL.set h2) (I.cnt h1 (by omega)) (I.cnt (by omega) h3) h

theorem gap_find (p : Int → Bool) (g : Int) (hp : p g = true) : ∀ (d : Nat) (y : Int), y + d = g → ∃ m, y ≤ m ∧ m ≤ g ∧ p m = true ∧ ∀ z, y ≤ z → z < m → ¬ p z = true
  | 0, y, h => ⟨g, by omega, by omega, hp, fun z h1 h2 => by omega⟩
  | d + 1, y, h => by
    by_cases hy : p y = true
    · exact ⟨y, by omega, by omega, hy, fun z h1 h2 => by omega⟩
    · obtain ⟨m, h1, h2, h3, h4⟩ := gap_find p g hp d (y + 1) (by omega)
      refine ⟨m, by omega, h2, h3, fun z h5 h6 => ?_⟩
      by_cases e : z = y
      · rw [e]; exact hy
      · exact h4 z (by omega) h6

theorem canR_canB {G : List Int} (h : isT G = true) (hc : cnt G ≤ 4000) : (canR G).1 = canB G := can_few h hc

end Go.Proofs.Ytcbhhbkghbnljaa.Vf
