/- Routes: what can be watched. -/
import Derived.Test.YtcbhhbkghbnljaaQRouteA
import Derived.Test.YtcbhhbkghbnljaaQ02m
import Derived.Test.YtcbhhbkghbnljaaQ02w
set_option linter.unusedVariables false
set_option linter.unusedSimpArgs false
namespace Go.Proofs.Ytcbhhbkghbnljaa.Vf
open Go Go.V Go.RowKit

/-! ### States with a place -/

def cod (G S : List Int) (q : Int) : Int := num G S * (G.length : Int) + q

theorem cod_div {G S : List Int} {q : Int} (h0 : 0 ≤ q) (h1 : q < G.length) : cod G S q / (G.length : Int) = num G S ∧ cod G S q % (G.length : Int) = q := by
  unfold cod
  constructor
  · rw [Int.add_comm, Int.add_mul_ediv_right _ _ (by omega), Int.ediv_eq_zero_of_lt h0 h1, Int.zero_add]
  · rw [Int.add_comm, Int.add_mul_emod_self_right, Int.emod_eq_of_lt h0 h1]

theorem cod_bnd {G S : List Int} {q : Int} (h : isT G = true) (hS : Stt G S) (h0 : 0 ≤ q) (h1 : q < G.length) : 0 ≤ cod G S q ∧ cod G S q < cnt G * (G.length : Int) := by
  obtain ⟨b1, b2⟩ := num_bnd (isT_gp h) hS
  have e1 : 0 ≤ num G S * (G.length : Int) := Int.mul_nonneg b1 (by omega)
  have e2 : (num G S + 1) * (G.length : Int) ≤ cnt G * (G.length : Int) := Int.mul_le_mul_of_nonneg_right (by omega) (by omega)
  rw [Int.add_mul, Int.one_mul] at e2
  unfold cod; omega

/-- Each number is one. -/
theorem cod_of {G : List Int} (h : isT G = true) {x : Int} (h0 : 0 ≤ x) (h1 : x < cnt G * (G.length : Int)) : Stt G (ofN G (x / (G.length : Int))) ∧ 0 ≤ x % (G.length : Int) ∧ x % (G.length : Int) < G.length ∧ x = cod G (ofN G (x / (G.length : Int))) (x % (G.length : Int)) := by
  have hl := isT_len h
  have d0 : 0 ≤ x / (G.length : Int) := Int.ediv_nonneg h0 (by omega)
  have d1 : x / (G.length : Int) < cnt G := div_lt' (by omega) h1
  refine ⟨ofN_st _ (isT_gp h), Int.emod_nonneg _ (by omega), Int.emod_lt_of_pos _ (by omega), ?_⟩
  unfold cod
  rw [num_ofN (isT_gp h) d0 d1]
  have := Int.mul_ediv_add_emod x (G.length : Int)
  rw [Int.mul_comm] at this
  omega

theorem mvs_mem {r : Int} {G : List Int} {x y : Int} : y ∈ mvs r G x ↔ ∃ t : Nat, t < G.length ∧ mvO r G x (t : Int) = some y := by
  unfold mvs mvF
  rw [List.mem_filterMap]
  constructor
  · rintro ⟨t, ht, e⟩
    have := List.mem_range'_1.1 ht
    exact ⟨t, by omega, e⟩
  · rintro ⟨t, ht, e⟩
    exact ⟨t, List.mem_range'_1.2 ⟨by omega, by omega⟩, e⟩

theorem mvO_spec' {r : Int} {G S : List Int} {q t y : Int} (h : isT G = true) (hS : Stt G S) (h0 : 0 ≤ q) (h1 : q < G.length) : mvO r G (cod G S q) t = some y ↔ nearV r q t = true ∧ ∃ T, step G S t = some T ∧ y = cod G T t := by
  obtain ⟨e1, e2⟩ := cod_div (G := G) (S := S) h0 h1
  unfold mvO mvN
  rw [e1, e2, ofN_num (isT_gp h) hS]
  by_cases c : nearV r q t = true
  · rw [if_pos c]
    constructor
    · intro e
      obtain ⟨T, h2, h3⟩ := Option.map_eq_some_iff.1 e
      exact ⟨c, T, h2, h3.symm⟩
    · rintro ⟨_, T, h2, h3⟩
      exact Option.map_eq_some_iff.2 ⟨T, h2, h3.symm⟩
  · rw [if_neg c]
    constructor
    · intro e; cases e
    · rintro ⟨c', _⟩; exact absurd c' c

/-- The first move to a state that is left. -/
theorem first_next {r : Int} {G S : List Int} {L : List Bool} {q y : Int} (h : isT G = true) (hS : Stt G S) (h0 : 0 ≤ q) (h1 : q < G.length) (e : firstM r G L (cod G S q) = some y) :
    ∃ (t : Nat) (T : List Int), t < G.length ∧ nearV r q t = true ∧ step G S t = some T ∧ Stt G T ∧ y = cod G T t ∧ L.getD y.toNat false = true := by
  unfold firstM at e
  have h2 := List.find?_some (p := fun y : Int => L.getD y.toNat false) e
  obtain ⟨t, ht, h3⟩ := mvs_mem.1 (List.mem_of_find?_eq_some e)
  obtain ⟨c, T, h4, h5⟩ := (mvO_spec' h hS h0 h1).1 h3
  exact ⟨t, T, ht, c, h4, step_st (isT_gp h) hS h4, h5, h2⟩

theorem first_some {r : Int} {G S T : List Int} {L : List Bool} {q : Int} {t : Nat} (h : isT G = true) (hS : Stt G S) (h0 : 0 ≤ q) (h1 : q < G.length) (ht : t < G.length) (hn : nearV r q t = true) (hs : step G S t = some T) (hL : L.getD (cod G T t).toNat false = true) :
    (firstM r G L (cod G S q)).isSome = true := by
  unfold firstM
  rw [List.find?_isSome]
  exact ⟨_, mvs_mem.2 ⟨t, ht, (mvO_spec' h hS h0 h1).2 ⟨hn, T, hs, rfl⟩⟩, hL⟩

/-! ### What is safe is the greatest -/

theorem swp_sub (g : List Bool → Nat → Bool) : ∀ (d i : Nat) (L : List Bool) (ch : Bool) (v : Nat), (swp g d i L ch).1.getD v false = true → L.getD v false = true
  | 0, i, L, ch, v, h => h
  | d + 1, i, L, ch, v, h => by
    by_cases hb : L.getD i false = true
    · by_cases hgg : g L i = true
      · rw [swp_good hb hgg] at h; exact swp_sub g d (i + 1) L ch v h
      · rw [swp_bad hb hgg] at h
        have := swp_sub g d (i + 1) _ true v h
        by_cases e : i = v
        · rw [← e]; exact hb
        · rwa [getD_set_ne e] at this
    · rw [swp_end _ _ _ _ _ hb] at h; exact swp_sub g d (i + 1) L ch v h

theorem fix_sub (g : List Bool → Nat → Bool) : ∀ (n : Nat) (L L' : List Bool) (ch : Bool), fixO g n L ch = some L' → ∀ v, L'.getD v false = true → L.getD v false = true
  | 0, _, _, _, h, _ => by cases h
  | n + 1, L, L', false, h, _ => by
    obtain rfl : L = L' := by simpa [fixO] using h
    exact fun h => h
  | n + 1, L, L', true, h, v => by
    have h' : fixO g n (swp g L.length 0 L false).1 (swp g L.length 0 L false).2 = some L' := by simpa [fixO] using h
    exact fun hv => swp_sub g _ _ _ _ v (fix_sub g n _ L' _ h' v hv)

theorem inits_at {G : List Int} {m v : Nat} (hv : v < m) : (inits G m).getD v false = initW G v := by
  unfold inits
  rw [List.getD_eq_getElem?_getD, List.getElem?_map, List.getElem?_range hv]; rfl

theorem init_cod {G S : List Int} {q : Int} (h : isT G = true) (hS : Stt G S) (h0 : 0 ≤ q) (h1 : q < G.length) : initW G (cod G S q).toNat = true ↔ rd S q = rd G q := by
  obtain ⟨b1, b2⟩ := cod_bnd h hS h0 h1
  obtain ⟨e1, e2⟩ := cod_div (G := G) (S := S) h0 h1
  unfold initW
  rw [show (((cod G S q).toNat : Nat) : Int) = cod G S q by omega, e1, e2, ofN_num (isT_gp h) hS, decide_eq_true_eq]

def safeS (r : Int) (G S : List Int) (q : Int) : Prop := (safe r G).getD (cod G S q).toNat false = true

theorem safe_init {p r : Int} {G S : List Int} {q : Int} (W : Wt p r G) (hS : Stt G S) (h0 : 0 ≤ q) (h1 : q < G.length) (hs : safeS r G S q) : rd S q = rd G q := by
  obtain ⟨h2, _⟩ := safe_fix W (k := 20003) (Nat.le_refl _)
  have hw := W.all
  obtain ⟨b1, b2⟩ := cod_bnd W.t hS h0 h1
  have := fix_sub _ _ _ _ _ h2 _ hs
  rw [inits_at (by omega)] at this
  exact (init_cod W.t hS h0 h1).1 this

theorem safe_sup {p r : Int} {G : List Int} (W : Wt p r G) {X : List Int → Int → Prop} (hX : ∀ S q, X S q → Stt G S ∧ 0 ≤ q ∧ q < G.length ∧ rd S q = rd G q)
    (hg : ∀ S q, X S q → ∃ (t : Nat) (T : List Int), t < G.length ∧ nearV r q t = true ∧ step G S t = some T ∧ X T t) : ∀ S q, X S q → safeS r G S q := by
  obtain ⟨h2, _⟩ := safe_fix W (k := 20003) (Nat.le_refl _)
  have hw := W.all
  have key := fix_sup (g := goodW r G) (X := fun v => ∃ S q, X S q ∧ v = (cod G S q).toNat) (fun L hL v hv => by
    obtain ⟨S, q, hx, rfl⟩ := hv
    obtain ⟨hS, h0, h1, _⟩ := hX S q hx
    obtain ⟨t, T, ht, hn, hs, hxt⟩ := hg S q hx
    obtain ⟨b1, b2⟩ := cod_bnd W.t hS h0 h1
    unfold goodW
    rw [show (((cod G S q).toNat : Nat) : Int) = cod G S q by omega]
    exact first_some W.t hS h0 h1 ht hn hs (hL _ ⟨T, t, hxt, rfl⟩)) 20003 _ _ true h2 (fun v hv => by
    obtain ⟨S, q, hx, rfl⟩ := hv
    obtain ⟨hS, h0, h1, hi⟩ := hX S q hx
    obtain ⟨b1, b2⟩ := cod_bnd W.t hS h0 h1
    rw [inits_at (by omega)]
    exact (init_cod W.t hS h0 h1).2 hi)
  exact fun S q hx => key _ ⟨S, q, hx, rfl⟩

theorem safe_next {p r : Int} {G S : List Int} {q : Int} (W : Wt p r G) (hS : Stt G S) (h0 : 0 ≤ q) (h1 : q < G.length) (hs : safeS r G S q) :
    ∃ (t : Nat) (T : List Int), t < G.length ∧ nearV r q t = true ∧ step G S t = some T ∧ Stt G T ∧ safeS r G T t ∧ nextW r G (cod G S q) = cod G T t := by
  obtain ⟨b1, b2⟩ := cod_bnd W.t hS h0 h1
  obtain ⟨y, hy⟩ := safe_good W b1 b2 hs
  obtain ⟨t, T, ht, hn, h3, h4, h5, h6⟩ := first_next W.t hS h0 h1 hy
  refine ⟨t, T, ht, hn, h3, h4, by unfold safeS; rw [← h5]; exact h6, ?_⟩
  unfold nextW; rw [hy]; exact h5

theorem rd_step {G S T : List Int} {c : Int} {t : Nat} (hS : Stt G S) (hs : step G S c = some T) (ht : t < G.length) : rd T t = if (t : Int) = c then rd G t else rd S t - 1 := by
  have := stepA_rd hS hs ht
  rwa [Int.zero_add] at this

theorem LeL.trans : ∀ {A B C : List Int}, LeL A B → LeL B C → LeL A C
  | [], [], [], _, _ => trivial
  | a :: A, b :: B, c :: C, h1, h2 => ⟨by have := h1.1; have := h2.1; omega, LeL.trans h1.2 h2.2⟩
  | [], [], _ :: _, _, h => h.elim
  | [], _ :: _, _, h, _ => h.elim
  | _ :: _, [], _, h, _ => h.elim
  | _ :: _, _ :: _, [], _, h => h.elim

theorem stt_le9 : ∀ {G S : List Int}, Stt G S → LeL S G
  | [], [], _ => trivial
  | g :: G, s :: S, h => ⟨h.1.2, stt_le9 h.2⟩
  | [], _ :: _, h => h.elim
  | _ :: _, [], h => h.elim

/-- With wider gaps what is safe stays so, and the full state of its place is safe. -/
theorem safe_wide {p r : Int} {G G' S : List Int} {q : Int} (W : Wt p r G) (W' : Wt p r G') (hl : LeL G G') (hS : Stt G S) (h0 : 0 ≤ q) (h1 : q < G.length) (hs : safeS r G S q) : safeS r G' G' q := by
  have hlen := hl.length
  have hG := isT_gp W.t
  have hG' := isT_gp W'.t
  refine safe_sup W' (X := fun S' q => Stt G' S' ∧ 0 ≤ q ∧ q < G'.length ∧ rd S' q = rd G' q ∧ ∃ S, Stt G S ∧ safeS r G S q ∧ LeL S S') (fun S' q hx => ⟨hx.1, hx.2.1, hx.2.2.1, hx.2.2.2.1⟩) ?_ G' q ⟨stt_self hG', h0, by omega, rfl, S, hS, hs, LeL.trans (stt_le9 hS) hl⟩
  rintro S' q ⟨hS', q0, q1, hi, S, hS, hs, hle⟩
  obtain ⟨t, T, ht, hn, h3, h4, h5, _⟩ := safe_next W hS q0 (by omega) hs
  obtain ⟨T', hs', hTT⟩ := stepA_wide hl hle h3
  have hT' := step_st hG' hS' hs'
  refine ⟨t, T', by omega, hn, hs', hT', by omega, by omega, ?_, T, h4, h5, hTT⟩
  rw [rd_step hS' hs' (by omega), if_pos rfl]

theorem whole_cod {G : List Int} (h : isT G = true) (t : Nat) : wholeN G t = cod G G t := by
  unfold wholeN cod
  rw [num_self (isT_gp h)]

theorem begin_iff {r : Int} {G : List Int} (h : isT G = true) : (∃ x, beginF r G 0 G.length = some x) ↔ ∃ t : Nat, t < G.length ∧ safeS r G G t := by
  unfold beginF
  constructor
  · rintro ⟨x, hx⟩
    obtain ⟨t, ht, _⟩ := Option.map_eq_some_iff.1 hx
    have h1 := List.find?_some (p := fun t : Nat => (safe r G).getD (wholeN G t).toNat false) ht
    have h2 := List.mem_range'_1.1 (List.mem_of_find?_eq_some ht)
    exact ⟨t, by omega, by unfold safeS; rw [← whole_cod h]; exact h1⟩
  · rintro ⟨t, ht, hs⟩
    have : ((List.range' 0 G.length).find? fun t : Nat => (safe r G).getD (wholeN G t).toNat false).isSome = true := by
      rw [List.find?_isSome]
      exact ⟨t, List.mem_range'_1.2 ⟨by omega, by omega⟩, by rw [whole_cod h]; exact hs⟩
    obtain ⟨u, hu⟩ := Option.isSome_iff_exists.1 this
    exact ⟨_, by rw [hu]; rfl⟩

/-- Whether it can be watched. -/
theorem can_iff {p r : Int} {G : List Int} (hf : codeW p r G = 0) : (canW p r G).1 = true ↔ ∃ t : Nat, t < G.length ∧ safeS r G G t := by
  have W := codeW_zero hf
  unfold canW
  rw [if_pos hf, ← begin_iff W.t, decide_eq_true_eq]
  constructor
  · intro h
    cases hb : beginF r G 0 G.length with
    | none => rw [hb] at h; exact absurd h (by decide)
    | some x => exact ⟨x, rfl⟩
  · rintro ⟨x, hx⟩
    rw [hx]
    exact (begin_ok W hx).1

theorem can_some {p r : Int} {G S : List Int} {q : Int} (hf : codeW p r G = 0) (hS : Stt G S) (h0 : 0 ≤ q) (h1 : q < G.length) (hs : safeS r G S q) : (canW p r G).1 = true := by
  have W := codeW_zero hf
  refine (can_iff hf).2 ⟨q.toNat, by omega, ?_⟩
  rw [show ((q.toNat : Nat) : Int) = q by omega]
  exact safe_wide W W LeL.rfl' hS h0 h1 hs

theorem trues_pos9 {L : List Bool} : 0 < trues L ↔ ∃ v, v < L.length ∧ L.getD v false = true := by
  unfold trues
  rw [List.length_pos_iff_exists_mem]
  constructor
  · rintro ⟨b, hb⟩
    obtain ⟨h1, h2⟩ := List.mem_filter.1 hb
    obtain ⟨v, hv, e⟩ := List.getElem_of_mem h1
    refine ⟨v, hv, ?_⟩
    rw [List.getD_eq_getElem?_getD, List.getElem?_eq_getElem hv, Option.getD_some, e]
    simpa using h2
  · rintro ⟨v, hv, e⟩
    rw [List.getD_eq_getElem?_getD, List.getElem?_eq_getElem hv, Option.getD_some] at e
    exact ⟨true, List.mem_filter.2 ⟨by rw [← e]; exact List.getElem_mem hv, by simp⟩⟩

theorem count_can {p r : Int} {G : List Int} (hf : codeW p r G = 0) : (decide (0 < (countW p r G).1)) = (canW p r G).1 := by
  have W := codeW_zero hf
  have hw := W.all
  have hl := safe_len W
  rw [Bool.eq_iff_iff, decide_eq_true_eq]
  have e : (countW p r G).1 = ((trues (safe r G) : Nat) : Int) := by unfold countW; rw [if_pos hf]
  rw [e]
  constructor
  · intro h
    obtain ⟨v, hv, hs⟩ := trues_pos9.1 (show 0 < trues (safe r G) by omega)
    obtain ⟨c1, c2, c3, c4⟩ := cod_of W.t (x := (v : Int)) (by omega) (by omega)
    refine can_some hf c1 c2 c3 ?_
    unfold safeS
    rw [← c4, Int.toNat_natCast]; exact hs
  · intro h
    obtain ⟨t, ht, hs⟩ := (can_iff hf).1 h
    obtain ⟨b1, b2⟩ := cod_bnd W.t (stt_self (isT_gp W.t)) (q := (t : Int)) (by omega) (by omega)
    have := trues_pos9.2 ⟨(cod G G t).toNat, by omega, hs⟩
    omega

/-- Wider gaps can be watched too. -/
theorem can_wider {p r : Int} {G G' : List Int} (hf : codeW p r G = 0) (hf' : codeW p r G' = 0) (hl : LeL G G') (h : (canW p r G).1 = true) : (canW p r G').1 = true := by
  have W := codeW_zero hf
  have W' := codeW_zero hf'
  obtain ⟨t, ht, hs⟩ := (can_iff hf).1 h
  have hlen := hl.length
  refine (can_iff hf').2 ⟨t, by omega, ?_⟩
  exact safe_wide W W' hl (stt_self (isT_gp W.t)) (by omega) (by omega) hs

/-! ### The first route -/

noncomputable def it (r : Int) (G : List Int) : Nat → Int → Int
  | 0, x => x
  | n + 1, x => nextW r G (it r G n x)

theorem it_add (r : Int) (G : List Int) (m : Nat) : ∀ (n : Nat) (x : Int), it r G (m + n) x = it r G n (it r G m x)
  | 0, x => rfl
  | n + 1, x => by
    show nextW r G (it r G (m + n) x) = nextW r G (it r G n (it r G m x))
    rw [it_add r G m n x]

structure RouteJ (r : Int) (G : List Int) (a x : Int) (came out : List Int) : Prop where
  at_ : it r G out.length a = x
  pl : ∀ j : Nat, j < out.length → rd out j = it r G j a % (G.length : Int)
  came_ : ∀ u : Nat, u < came.length → rd came u ≠ 0 → 1 ≤ rd came u ∧ rd came u ≤ out.length ∧ it r G (rd came u - 1).toNat a = u

/-- A round of states: where it goes. -/
structure Round (r : Int) (G cs : List Int) (y : Int) : Prop where
  len : 1 ≤ cs.length
  ret : it r G cs.length y = y
  pl : ∀ j : Nat, j < cs.length → rd cs j = it r G j y % (G.length : Int)

theorem rd_drop (l : List Int) (i j : Nat) : rd (l.drop i) j = rd l ((i + j : Nat) : Int) := by
  rw [rd_nat, rd_nat, List.getD_eq_getElem?_getD, List.getD_eq_getElem?_getD, List.getElem?_drop]

theorem it_safe {p r : Int} {G : List Int} (W : Wt p r G) : ∀ (n : Nat) {x : Int}, (0 ≤ x ∧ x < cnt G * (G.length : Int) ∧ (safe r G).getD x.toNat false = true) → (0 ≤ it r G n x ∧ it r G n x < cnt G * (G.length : Int) ∧ (safe r G).getD (it r G n x).toNat false = true)
  | 0, x, h => h
  | n + 1, x, h => by
    obtain ⟨h0, h1, h2⟩ := it_safe W n h
    obtain ⟨y, hy⟩ := safe_good W h0 h1 h2
    have e : it r G (n + 1) x = y := by show nextW r G (it r G n x) = y; unfold nextW; rw [hy]; rfl
    rw [e]
    exact find_nonneg W.t hy

theorem route_round {p r : Int} {G : List Int} (W : Wt p r G) {a : Int} (ha : 0 ≤ a ∧ a < cnt G * (G.length : Int) ∧ (safe r G).getD a.toNat false = true) : ∀ (n : Nat) (x : Int) (came out : List Int) (y : List Int × Int), RouteI r G x came out → RouteJ r G a x came out → route r G n x came out = some y →
    (y.2 = 0 ∨ y.2 = 3) ∧ (y.2 = 0 → y.1.length ≤ 120 ∧ ∃ z, (0 ≤ z ∧ z < cnt G * (G.length : Int) ∧ (safe r G).getD z.toNat false = true) ∧ Round r G y.1 z)
  | 0, x, came, out, y, I, J, h => by cases h
  | n + 1, x, came, out, y, I, J, h => by
    have hx0 := I.x0; have hx1 := I.x1; have hcl := I.cl
    have ex : ((x.toNat : Nat) : Int) = x := by omega
    have hxl : x.toNat < came.length := by omega
    unfold route at h
    split at h
    · rename_i hc
      refine route_round W ha n _ _ _ y (I.next W hc) ⟨?_, fun j hj => ?_, fun u hu hr => ?_⟩ h
      · simp only [List.length_append, List.length_singleton]
        show nextW r G (it r G out.length a) = nextW r G x
        rw [J.at_]
      · rw [rd_app1]
        by_cases c : j < out.length
        · rw [if_pos c]; exact J.pl j c
        · have e : j = out.length := by simp at hj; omega
          rw [if_neg c, if_pos e, e, J.at_]
      · have hu' : u < came.length := by simpa using hu
        have hset : rd (came.set x.toNat ((out.length : Int) + 1)) u = if u = x.toNat then (out.length : Int) + 1 else rd came u := rd_set hxl
        rw [hset] at hr ⊢
        by_cases e : u = x.toNat
        · rw [if_pos e]
          refine ⟨by omega, by simp, ?_⟩
          rw [show ((out.length : Int) + 1 - 1).toNat = out.length by omega, J.at_, e, ex]
        · rw [if_neg e] at hr ⊢
          obtain ⟨j1, j2, j3⟩ := J.came_ u hu' hr
          exact ⟨j1, by simp; omega, j3⟩
    · rename_i hc
      obtain ⟨j1, j2, j3⟩ := J.came_ x.toNat hxl (by rw [ex]; exact hc)
      rw [ex] at j1 j2 j3
      split at h
      · cases h
        exact ⟨.inr rfl, fun e => absurd e (by decide)⟩
      · rename_i hlen
        cases h
        obtain ⟨i, hi⟩ : ∃ i, i = (rd came x - 1).toNat := ⟨_, rfl⟩
        rw [← hi] at j3 hlen ⊢
        have hio : i < out.length := by omega
        have hdl : (out.drop i).length = out.length - i := List.length_drop
        refine ⟨.inl rfl, fun _ => ⟨by simp only; omega, x, ⟨hx0, hx1, I.sx⟩, ⟨by show 1 ≤ (out.drop i).length; omega, ?_, fun j hj => ?_⟩⟩⟩
        · show it r G (out.drop i).length x = x
          rw [hdl]
          have := it_add r G i (out.length - i) a
          rw [show i + (out.length - i) = out.length by omega, J.at_, j3] at this
          exact this.symm
        · have hj : j < (out.drop i).length := hj
          show rd (out.drop i) j = _
          rw [rd_drop, J.pl (i + j) (by omega), it_add, j3]

/-- The first route goes round through safe states. -/
theorem routeR_round {p r : Int} {G : List Int} (hf : codeW p r G = 0) : ((canW p r G).1 = true ↔ (routeR p r G).2 ≠ 4) ∧ ((routeR p r G).2 = 0 → (routeR p r G).1.length ≤ 120 ∧ ∃ z, (0 ≤ z ∧ z < cnt G * (G.length : Int) ∧ (safe r G).getD z.toNat false = true) ∧ Round r G (routeR p r G).1 z) := by
  have W := codeW_zero hf
  have hcan := can_iff hf
  rw [← begin_iff W.t] at hcan
  cases hb : beginF r G 0 G.length with
  | none =>
    have e : routeR p r G = ([], 4) := by unfold routeR; rw [if_pos hf, hb]
    rw [e]
    refine ⟨⟨fun h => ?_, fun h => absurd rfl h⟩, fun h => absurd h (by decide)⟩
    obtain ⟨x, hx⟩ := hcan.1 h
    rw [hb] at hx; cases hx
  | some x =>
    obtain ⟨y, h1, h2, _⟩ := routeR_eq hf hb
    obtain ⟨q1, q2⟩ := route_round W (begin_ok W hb) 20001 x _ _ y (route_start W hb) ⟨rfl, fun j hj => by simp at hj, fun u hu hr => by
      exfalso
      apply hr
      rw [rd_nat, List.getD_eq_getElem?_getD, List.getElem?_replicate, if_pos (by simpa using hu)]; rfl⟩ h1
    rw [h2]
    refine ⟨⟨fun _ => ?_, fun _ => hcan.2 ⟨x, hb⟩⟩, q2⟩
    rcases q1 with e | e <;> rw [e] <;> decide

theorem Round.state {p r : Int} {G cs : List Int} {z : Int} (W : Wt p r G) (hz : 0 ≤ z ∧ z < cnt G * (G.length : Int) ∧ (safe r G).getD z.toNat false = true) (j : Nat) :
    ∃ (S T : List Int) (q : Int) (t : Nat), Stt G S ∧ 0 ≤ q ∧ q < G.length ∧ it r G j z = cod G S q ∧ t < G.length ∧ nearV r q t = true ∧ step G S t = some T ∧ Stt G T ∧ it r G (j + 1) z = cod G T t := by
  obtain ⟨h0, h1, h2⟩ := it_safe W j hz
  obtain ⟨c1, c2, c3, c4⟩ := cod_of W.t h0 h1
  obtain ⟨t, T, d1, d2, d3, d4, d5, d6⟩ := safe_next W c1 c2 c3 (by unfold safeS; rw [← c4]; exact h2)
  refine ⟨_, T, _, t, c1, c2, c3, c4, d1, d2, d3, d4, ?_⟩
  show nextW r G (it r G j z) = _
  rw [← c4] at d6
  exact d6

/-- Each task is led round. -/
theorem Round.turn {p r : Int} {G cs : List Int} {z : Int} (W : Wt p r G) (hz : 0 ≤ z ∧ z < cnt G * (G.length : Int) ∧ (safe r G).getD z.toNat false = true) (R : Round r G cs z) {t : Nat} (ht : t < G.length) :
    Turn cs (t : Int) (rd G t) (fun j => rd (ofN G (it r G (if j = 0 then cs.length - 1 else j - 1) z / (G.length : Int))) t) := by
  have hlen := R.len
  -- from one state to the next
  have nx : ∀ j : Nat, rd (ofN G (it r G (j + 1) z / (G.length : Int))) t = if it r G (j + 1) z % (G.length : Int) = t then rd G t else rd (ofN G (it r G j z / (G.length : Int))) t - 1 := by
    intro j
    obtain ⟨S, T, q, u, s1, s2, s3, s4, s5, s6, s7, s8, s9⟩ := Round.state (cs := cs) W hz j
    obtain ⟨e1, e2⟩ := cod_div (G := G) (S := S) s2 s3
    obtain ⟨e3, e4⟩ := cod_div (G := G) (S := T) (q := (u : Int)) (by omega) (by omega)
    rw [s4, s9, e1, e3, e4, ofN_num (isT_gp W.t) s1, ofN_num (isT_gp W.t) s8, rd_step s1 s7 ht]
    by_cases c : (t : Int) = u
    · rw [if_pos c, if_pos c.symm]
    · rw [if_neg c, if_neg (fun e => c e.symm)]
  refine ⟨fun j hj => ?_, fun j _ => stt_at (ofN_st _ (isT_gp W.t)) ht, ?_⟩
  · rw [R.pl j hj]
    show rd (ofN G (it r G (if j + 1 = 0 then cs.length - 1 else j + 1 - 1) z / (G.length : Int))) t = _
    rw [if_neg (by omega), show j + 1 - 1 = j by omega]
    cases j with
    | zero =>
      have := nx (cs.length - 1)
      rw [show cs.length - 1 + 1 = cs.length by omega, R.ret] at this
      simp only [if_true]
      exact this
    | succ j =>
      rw [show (if j + 1 = 0 then cs.length - 1 else j + 1 - 1) = j from (if_neg (Nat.succ_ne_zero j)).trans (Nat.add_sub_cancel j 1)]
      exact nx j
  · show rd (ofN G (it r G (if cs.length = 0 then cs.length - 1 else cs.length - 1) z / (G.length : Int))) t = rd (ofN G (it r G (if 0 = 0 then cs.length - 1 else 0 - 1) z / (G.length : Int))) t
    rw [if_neg (by omega), if_pos rfl]

theorem Round.el {p r : Int} {G cs : List Int} {z : Int} (W : Wt p r G) (R : Round r G cs z) {j : Nat} (hj : j < cs.length) : 0 ≤ rd cs j ∧ rd cs j < G.length := by
  have hl := isT_len W.t
  rw [R.pl j hj]
  exact ⟨Int.emod_nonneg _ (by omega), Int.emod_lt_of_pos _ (by omega)⟩

theorem Round.near {p r : Int} {G cs : List Int} {z : Int} (W : Wt p r G) (hz : 0 ≤ z ∧ z < cnt G * (G.length : Int) ∧ (safe r G).getD z.toNat false = true) (R : Round r G cs z) {j : Nat} (hj : j < cs.length) : routeB r cs j = true := by
  have hlen := R.len
  have hs := sc_lt (n := cs.length) (i := j) hlen
  obtain ⟨S, T, q, u, s1, s2, s3, s4, s5, s6, s7, s8, s9⟩ := Round.state (cs := cs) W hz j
  obtain ⟨e1, e2⟩ := cod_div (G := G) (S := S) s2 s3
  obtain ⟨e3, e4⟩ := cod_div (G := G) (S := T) (q := (u : Int)) (by omega) (by omega)
  have h1 : rd cs j = q := by rw [R.pl j hj, s4, e2]
  have h2 : rd cs (sc cs.length j : Nat) = u := by
    rw [R.pl _ hs, sc_eq hj]
    by_cases c : j + 1 < cs.length
    · rw [if_pos c, s9, e4]
    · rw [if_neg c]
      have e : j + 1 = cs.length := by omega
      rw [e, R.ret] at s9
      show it r G 0 z % (G.length : Int) = u
      show z % (G.length : Int) = u
      rw [s9, e4]
  unfold routeB
  rw [h1, h2, decide_eq_true s2, decide_eq_true (by omega), s6]; rfl

end Go.Proofs.Ytcbhhbkghbnljaa.Vf
