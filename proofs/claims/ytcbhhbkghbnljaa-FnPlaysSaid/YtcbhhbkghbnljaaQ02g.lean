/- Which states last: what the functions of program and reference give. -/
import Derived.Test.YtcbhhbkghbnljaaQ02
set_option linter.unusedVariables false
set_option linter.unusedSimpArgs false
namespace Go.Proofs.Ytcbhhbkghbnljaa.Vf
open Go Go.V Go.RowKit

/-- Choices from a place on. -/
def chsF (j d : Nat) : List Int := (List.range' j d).map fun i : Nat => (i : Int) - 1

theorem chsF_succ (j d : Nat) : chsF j (d + 1) = ((j : Int) - 1) :: chsF (j + 1) d := by
  simp [chsF, List.range'_succ]

theorem chs_eq (m : Nat) : chs m = chsF 0 (m + 1) := by
  unfold chs chsF
  rw [List.range_eq_range']

/-! ### Maps -/

theorem mgI_nil {α : Type} (x : Int) : mgI ([] : List (Int × α)) x = none := rfl
theorem mgI_cons {α : Type} (a : Int) (y : α) (l : List (Int × α)) (x : Int) : mgI ((a, y) :: l) x = if x = a then some y else mgI l x := by
  show (match keyI x a with | true => some y | false => mget (.int .i64) l x) = _
  by_cases h : x = a
  · rw [(keyI_iff x a).2 h, if_pos h]
  · rw [if_neg h]
    cases hk : keyI x a with
    | true => exact absurd ((keyI_iff x a).1 hk) h
    | false => rfl
theorem mpI_nil {α : Type} (x : Int) (y : α) : mpI ([] : List (Int × α)) x y = [(x, y)] := rfl
theorem mpI_cons {α : Type} (a : Int) (z : α) (l : List (Int × α)) (x : Int) (y : α) : mpI ((a, z) :: l) x y = if x = a then (x, y) :: l else (a, z) :: mpI l x y := by
  show (match keyI x a with | true => (x, y) :: l | false => (a, z) :: mput (.int .i64) l x y) = _
  by_cases h : x = a
  · rw [(keyI_iff x a).2 h, if_pos h]
  · rw [if_neg h]
    cases hk : keyI x a with
    | true => exact absurd ((keyI_iff x a).1 hk) h
    | false => rfl

theorem mpI_new {α : Type} {l : List (Int × α)} {x : Int} {y : α} (h : ∀ p ∈ l, p.1 ≠ x) : mpI l x y = l ++ [(x, y)] := by
  induction l with
  | nil => rfl
  | cons p l ih =>
    obtain ⟨a, z⟩ := p
    rw [mpI_cons, if_neg (fun e => h (a, z) (by simp) e.symm), ih (fun p hp => h p (by simp [hp]))]
    rfl

theorem mgI_none {α : Type} {l : List (Int × α)} {x : Int} (h : ∀ p ∈ l, p.1 ≠ x) : mgI l x = none := by
  induction l with
  | nil => rfl
  | cons p l ih =>
    obtain ⟨a, z⟩ := p
    rw [mgI_cons, if_neg (fun e => h (a, z) (by simp) e.symm), ih (fun p hp => h p (by simp [hp]))]

theorem mgI_mpI {α : Type} (l : List (Int × α)) (x z : Int) (y : α) : mgI (mpI l x y) z = if z = x then some y else mgI l z := by
  induction l with
  | nil => rw [mpI_nil, mgI_cons]
  | cons p l ih =>
    obtain ⟨a, w⟩ := p
    rw [mpI_cons]
    by_cases h : x = a
    · rw [if_pos h, mgI_cons]
      subst h
      by_cases h2 : z = x
      · rw [if_pos h2, if_pos h2]
      · rw [if_neg h2, if_neg h2, mgI_cons, if_neg h2]
    · rw [if_neg h, mgI_cons, ih, mgI_cons]
      by_cases h2 : z = a
      · rw [if_pos h2, if_pos h2, if_neg (fun e => h (e.symm.trans h2))]
      · rw [if_neg h2, if_neg h2]

/-! ### The choices of a state, with the states behind them -/

/-- Where a choice in the state numbered leads. -/
def ent (G : List Int) (v : Int) (c : Int) : Option (Int × Int) := (step G (ofN G v) c).map fun T => (c, num G T)

def nxF (G : List Int) (v : Int) (j d : Nat) : List (Int × Int) := (chsF j d).filterMap (ent G v)

/-- All of a state. -/
def nx (G : List Int) (v : Int) : List (Int × Int) := nxF G v 0 (G.length + 1)

theorem nxF_succ (G : List Int) (v : Int) (j d : Nat) : nxF G v j (d + 1) = (match ent G v ((j : Int) - 1) with | some p => p :: nxF G v (j + 1) d | none => nxF G v (j + 1) d) := by
  unfold nxF
  rw [chsF_succ, List.filterMap_cons]
  cases ent G v ((j : Int) - 1) <;> rfl

theorem nxF_ge (G : List Int) (v : Int) : ∀ (d j : Nat), ∀ p ∈ nxF G v j d, (j : Int) - 1 ≤ p.1 := by
  intro d j p hp
  unfold nxF at hp
  obtain ⟨c, hc, he⟩ := List.mem_filterMap.1 hp
  obtain ⟨i, hi, rfl⟩ := List.mem_map.1 hc
  unfold ent at he
  obtain ⟨T, _, rfl⟩ := Option.map_eq_some_iff.1 he
  have := List.mem_range'_1.1 hi
  show (j : Int) - 1 ≤ (i : Int) - 1
  omega

theorem mgI_nxF (G : List Int) (v : Int) : ∀ (d j i : Nat), j ≤ i → i < j + d → mgI (nxF G v j d) ((i : Int) - 1) = (step G (ofN G v) ((i : Int) - 1)).map (num G)
  | 0, j, i, h1, h2 => by omega
  | d + 1, j, i, h1, h2 => by
    rw [nxF_succ]
    by_cases e : i = j
    · subst e
      unfold ent
      cases hs : step G (ofN G v) ((i : Int) - 1) with
      | none =>
        simp only [Option.map_none]
        exact mgI_none fun p hp e => by have := nxF_ge G v d (i + 1) p hp; omega
      | some T => simp only [Option.map_some]; rw [mgI_cons, if_pos rfl]
    · have ih := mgI_nxF G v d (j + 1) i (by omega) (by omega)
      unfold ent
      cases hs : step G (ofN G v) ((j : Int) - 1) with
      | none => exact ih
      | some T =>
        simp only [Option.map_some]
        rw [mgI_cons, if_neg (by omega)]
        exact ih

theorem mgI_nx {G : List Int} {v : Int} {i : Nat} (h : i ≤ G.length) : mgI (nx G v) ((i : Int) - 1) = (step G (ofN G v) ((i : Int) - 1)).map (num G) :=
  mgI_nxF G v (G.length + 1) 0 i (by omega) (by omega)

/-- All maps. -/
def nxs (G : List Int) (m : Nat) : List (List (Int × Int)) := (List.range m).map fun i : Nat => nx G (i : Int)

theorem rdOf_nxs {G : List Int} {m i : Nat} (h : i < m) : rdOf ([] : List (Int × Int)) (nxs G m) (i : Int) = nx G (i : Int) := by
  rw [rdOf_lt (by simp [nxs]; exact h)]
  simp [nxs]

theorem getD_set_same {L : List Bool} {i : Nat} {b d : Bool} (h : i < L.length) : (L.set i b).getD i d = b := by
  rw [List.getD_eq_getElem?_getD, List.getElem?_set_self (by omega)]; rfl

/-! ### What the program's graph holds -/

theorem ofN_num_bnd {G : List Int} {v c : Int} {T : List Int} (h : isT G = true) (hs : step G (ofN G v) c = some T) : Stt G T ∧ 0 ≤ num G T ∧ num G T < cnt G := by
  have h1 := step_st (isT_gp h) (ofN_st v (isT_gp h)) hs
  exact ⟨h1, num_bnd (isT_gp h) h1⟩

theorem keeping_loop {k : Nat} {G : List Int} {L : List Bool} {v : Nat} (h : isT G = true) (hL : (L.length : Int) = cnt G) (hv : v < L.length) : ∀ (d j n : Nat) (out : List Int), G.length + 1 - j = d → j ≤ G.length + 1 → d < n → out.length ≤ j →
    impl_graph_keeping.l0 k n (G, nxs G L.length, L) v out ((j : Int) - 1) = some (out ++ (chsF j d).filter (goodC G L v)) := by
  have hlen := isT_len h
  intro d
  induction d with
  | zero =>
    intro j n out hd hj hn ho
    cases n with
    | zero => omega
    | succ n =>
      simp only [impl_graph_keeping.l0, impl_graph_keeping.s0, many_f, Option.bind_some]
      rw [if_neg (by omega)]
      simp [chsF]
  | succ d ih =>
    intro j n out hd hj hn ho
    cases n with
    | zero => omega
    | succ n =>
      simp only [impl_graph_keeping.l0, impl_graph_keeping.s0, many_f, Option.bind_some]
      have hnl : (nxs G L.length).length = L.length := by simp [nxs]
      have e1 : wrap64 ((j : Int) - 1 + 1) = ((j + 1 : Nat) : Int) - 1 := by rw [w64 (by omega) (by omega)]; omega
      rw [if_pos (by omega), if_pos (by omega), if_pos (by omega), rdOf_nxs hv, mgI_nx (by omega), chsF_succ, List.filter_cons, e1]
      cases hs : step G (ofN G v) ((j : Int) - 1) with
      | none =>
        have hg : goodC G L v ((j : Int) - 1) = false := by simp [goodC, hs]
        simp only [Option.map_none, Option.isSome_none, Bool.false_eq_true, if_false, hg]
        exact ih (j + 1) n out (by omega) (by omega) (by omega) (by omega)
      | some T =>
        obtain ⟨_, b1, b2⟩ := ofN_num_bnd h hs
        have hg : goodC G L v ((j : Int) - 1) = L.getD (num G T).toNat false := by simp [goodC, hs]
        simp only [Option.map_some, Option.isSome_some, if_true, Option.getD_some]
        rw [if_pos b1, if_pos (by omega), hg]
        cases hb : L.getD (num G T).toNat false with
        | true =>
          rw [if_pos (show rdOf false L (num G T) = true from hb)]
          simp only [if_true]
          rw [if_pos (by omega), ih (j + 1) n _ (by omega) (by omega) (by omega) (by simp; omega)]
          simp
        | false =>
          rw [if_neg (show ¬ rdOf false L (num G T) = true from by rw [show rdOf false L (num G T) = false from hb]; simp)]
          simp only [Bool.false_eq_true, if_false]
          exact ih (j + 1) n out (by omega) (by omega) (by omega) (by omega)

theorem keeping_f {k : Nat} {G : List Int} {L : List Bool} {v : Nat} (hk : 2097152 ≤ k) (h : isT G = true) (hL : (L.length : Int) = cnt G) (hv : v < L.length) : impl_graph_keeping.f k (G, nxs G L.length, L) v = some (keep G L v) := by
  unfold impl_graph_keeping.f impl_graph_keeping.g
  have := isT_len h
  have := keeping_loop (k := k) h hL hv (G.length + 1) 0 k [] (by omega) (by omega) (by omega) (by simp)
  rw [keep, chs_eq]
  exact this

def goodK (G : List Int) (L : List Bool) (i : Nat) : Bool := (keep G L i) != []
theorem goodK_t {G : List Int} {L : List Bool} {i : Nat} (h : keep G L i ≠ []) : goodK G L i = true := by simp [goodK, h]
theorem goodK_f {G : List Int} {L : List Bool} {i : Nat} (h : keep G L i = []) : ¬ goodK G L i = true := by simp [goodK, h]
theorem swp_end (g : List Bool → Nat → Bool) (d i : Nat) (L : List Bool) (ch : Bool) (hb : ¬ L.getD i false = true) : swp g (d + 1) i L ch = swp g d (i + 1) L ch := if_neg hb
theorem swp_good {g : List Bool → Nat → Bool} {d i : Nat} {L : List Bool} {ch : Bool} (hb : L.getD i false = true) (hg : g L i = true) : swp g (d + 1) i L ch = swp g d (i + 1) L ch := (if_pos hb).trans (if_pos hg)
theorem swp_bad {g : List Bool → Nat → Bool} {d i : Nat} {L : List Bool} {ch : Bool} (hb : L.getD i false = true) (hg : ¬ g L i = true) : swp g (d + 1) i L ch = swp g d (i + 1) (L.set i false) true := (if_pos hb).trans (if_neg hg)

theorem swp_set_len (L : List Bool) (i : Nat) : (L.set i false).length = L.length := by simp

theorem graph_l3 {k : Nat} {G : List Int} {m : Nat} (hk : 2097152 ≤ k) (h : isT G = true) (hm : (m : Int) = cnt G) {r2 : (List Int) → (List (List (Int × Int))) → (List Bool) → Bool → Option (((List Int) × (List (List (Int × Int))) × (List Bool)))} :
    ∀ (d i n : Nat) (L : List Bool) (ch : Bool), L.length = m → m - i = d → i ≤ m → d < n →
      impl_graphOf.l3 k r2 n G (nxs G m) L ch m i = r2 G (nxs G m) (swp (goodK G) d i L ch).1 (swp (goodK G) d i L ch).2 := by
  have hc := cnt_small (isT_gp h) (isT_len h).2
  intro d
  induction d with
  | zero =>
    intro i n L ch hL hd hi hn
    cases n with
    | zero => omega
    | succ n =>
      simp only [impl_graphOf.l3, impl_graphOf.s3]
      rw [if_neg (by omega)]
      rfl
  | succ d ih =>
    intro i n L ch hL hd hi hn
    cases n with
    | zero => omega
    | succ n =>
      simp only [impl_graphOf.l3, impl_graphOf.s3]
      rw [if_pos (by omega), if_pos (by omega), if_pos (by omega), rdOf_nat, w64n (by omega)]
      have hkeep := keeping_f hk h (L := L) (v := i) (by omega) (by omega)
      rw [hL] at hkeep
      rw [hkeep, Option.bind_some]
      by_cases hb : L.getD i false = true
      · rw [if_pos hb]
        by_cases hg : keep G L i = []
        · rw [if_pos (by rw [hg]; rfl), if_pos (by omega), if_pos (by omega), Int.toNat_natCast, swp_bad hb (goodK_f hg), ih (i + 1) n _ _ (by simpa using hL) (by omega) (by omega) (by omega)]
        · rw [if_neg (by have : (keep G L i).length ≠ 0 := fun e => hg (List.eq_nil_of_length_eq_zero e); omega), swp_good hb (goodK_t hg), ih (i + 1) n _ _ hL (by omega) (by omega) (by omega)]
      · rw [if_neg hb, swp_end _ _ _ _ _ hb, ih (i + 1) n _ _ hL (by omega) (by omega) (by omega)]

theorem graph_l2 {k : Nat} {G : List Int} {m : Nat} (hk : 2097152 ≤ k) (h : isT G = true) (hm : (m : Int) = cnt G) (hm2 : m ≤ 100000) : ∀ (n : Nat) (L : List Bool) (ch : Bool), L.length = m →
    impl_graphOf.l2 k n G (nxs G m) L ch = (fixO (goodK G) n L ch).map fun L => (G, nxs G m, L)
  | 0, L, ch, hL => rfl
  | n + 1, L, ch, hL => by
    simp only [impl_graphOf.l2, impl_graphOf.s2, fixO]
    cases ch with
    | false => simp
    | true =>
      simp only [if_true]
      have := graph_l3 (r2 := impl_graphOf.l2 k n) hk h hm m 0 k L false hL (by omega) (by omega) (by omega)
      rw [show (L.length : Int) = (m : Int) by omega]
      rw [show impl_graphOf.l3 k (impl_graphOf.l2 k n) k G (nxs G m) L false m 0 = _ from this, graph_l2 hk h hm hm2 n _ _ (by rw [swp_len]; exact hL), hL]

theorem graph_l1 {k : Nat} {G : List Int} {v : Nat} (hk : 2097152 ≤ k) (h : isT G = true) (hv : (v : Int) < cnt G) {r0 : (List Int) → (List Int) → (List (List (Int × Int))) → (List Bool) → Int → Int → Option (((List Int) × (List (List (Int × Int))) × (List Bool)))}
    {NX : List (List (Int × Int))} {L : List Bool} {N : Int} (h1 : NX.length ≤ 1048576) (h2 : L.length ≤ 1048576) : ∀ (d j n : Nat) (M : List (Int × Int)), G.length + 1 - j = d → j ≤ G.length + 1 → d < n → (∀ p ∈ M, p.1 < (j : Int) - 1) →
      impl_graphOf.l1 k r0 n G G NX L v M ((j : Int) - 1) N v = r0 G G (NX ++ [M ++ nxF G v j d]) (L ++ [true]) N ((v + 1 : Nat) : Int) := by
  have hlen := isT_len h
  have hc := cnt_small (isT_gp h) (isT_len h).2
  intro d
  induction d with
  | zero =>
    intro j n M hd hj hn hM
    cases n with
    | zero => omega
    | succ n =>
      simp only [impl_graphOf.l1, impl_graphOf.s1, many_f, Option.bind_some]
      rw [if_neg (by omega), if_pos (by omega), if_pos (by omega), w64n (by omega)]
      simp [nxF, chsF]
  | succ d ih =>
    intro j n M hd hj hn hM
    cases n with
    | zero => omega
    | succ n =>
      have hst := ofN_st (v : Int) (isT_gp h)
      have e1 : wrap64 ((j : Int) - 1 + 1) = ((j + 1 : Nat) : Int) - 1 := by rw [w64 (by omega) (by omega)]; omega
      simp only [impl_graphOf.l1, impl_graphOf.s1, many_f, Option.bind_some]
      rw [if_pos (by omega), numbered_f hk h (by omega) (by omega), Option.bind_some, step_f hk h hst, Option.bind_some, e1, nxF_succ]
      unfold ent
      cases hs : step G (ofN G v) ((j : Int) - 1) with
      | none =>
        simp only [stepR, Bool.false_eq_true, if_false, Option.map_none]
        exact ih (j + 1) n M (by omega) (by omega) (by omega) (fun p hp => by have := hM p hp; omega)
      | some T =>
        obtain ⟨b0, b1, b2⟩ := ofN_num_bnd h hs
        simp only [stepR, if_true, Option.map_some, List.nil_append]
        rw [number_f hk h b0, Option.bind_some, mpI_new (fun p hp e => by have := hM p hp; omega), ih (j + 1) n _ (by omega) (by omega) (by omega) (fun p hp => by
          rcases List.mem_append.1 hp with hp | hp
          · have := hM p hp; omega
          · simp only [List.mem_singleton] at hp; subst hp; show (j : Int) - 1 < _; omega)]
        simp

theorem nxs_succ (G : List Int) (m : Nat) : nxs G (m + 1) = nxs G m ++ [nx G m] := by
  simp [nxs, List.range_succ]

theorem graph_l0 {k : Nat} {G : List Int} {m : Nat} (hk : 2097152 ≤ k) (h : isT G = true) (hm : (m : Int) = cnt G) (hm2 : m ≤ 100000) : ∀ (d i n : Nat), m - i = d → i ≤ m → d < n →
    impl_graphOf.l0 k n G G (nxs G i) (List.replicate i true) m i = (fixO (goodK G) k (List.replicate m true) true).map fun L => (G, nxs G m, L) := by
  have hlen := isT_len h
  intro d
  induction d with
  | zero =>
    intro i n hd hi hn
    obtain rfl : i = m := by omega
    cases n with
    | zero => omega
    | succ n =>
      simp only [impl_graphOf.l0, impl_graphOf.s0]
      rw [if_neg (by omega), graph_l2 hk h hm hm2 k _ _ (by simp)]
  | succ d ih =>
    intro i n hd hi hn
    cases n with
    | zero => omega
    | succ n =>
      simp only [impl_graphOf.l0, impl_graphOf.s0]
      have := graph_l1 (v := i) (r0 := impl_graphOf.l0 k n) (NX := nxs G i) (L := List.replicate i true) (N := (m : Int)) hk h (by omega) (by simp [nxs]; omega) (by simp; omega) (G.length + 1) 0 k [] (by omega) (by omega) (by omega) (by simp)
      rw [if_pos (by omega)]
      refine Eq.trans this ?_
      rw [List.nil_append, ← List.replicate_succ', show nxF G i 0 (G.length + 1) = nx G i from rfl, ← nxs_succ]
      exact ih (i + 1) n (by omega) (by omega) (by omega)

theorem fix_mono (good : List Bool → Nat → Bool) : ∀ (n n' : Nat) (L L' : List Bool) (ch : Bool), n ≤ n' → fixO good n L ch = some L' → fixO good n' L ch = some L'
  | 0, _, _, _, _, _, h => by cases h
  | n + 1, 0, _, _, _, h, _ => by omega
  | n + 1, n' + 1, L, L', ch, h, e => by
    cases ch with
    | false => exact e
    | true => exact fix_mono good n n' _ _ _ (by omega) e

theorem lasting_fix {G : List Int} (h : isT G = true) (hc : cnt G ≤ 4000) {k : Nat} (hk : 4003 ≤ k) : fixO (goodK G) k (List.replicate (cnt G).toNat true) true = some (lasting G) ∧ ((lasting G).length : Int) = cnt G := by
  have hp := cnt_pos (isT_gp h)
  obtain ⟨L', h1, h2⟩ := fix_some (goodK G) 4003 (List.replicate (cnt G).toNat true) true (by have := trues_le (List.replicate (cnt G).toNat true); simp at this; omega)
  have e : lasting G = L' := by
    unfold lasting
    rw [show (fun L i => (keep G L (i : Nat)) != []) = goodK G from rfl, h1]; rfl
  rw [e]
  refine ⟨fix_mono _ _ _ _ _ _ hk h1, ?_⟩
  rw [h2]; simp; omega

/-- The program's graph. -/
theorem graphOf_f {k : Nat} {G : List Int} (hk : 2097152 ≤ k) (h : isT G = true) (hc : cnt G ≤ 4000) : impl_graphOf.f k G = some (G, nxs G (lasting G).length, lasting G) := by
  have hp := cnt_pos (isT_gp h)
  unfold impl_graphOf.f impl_graphOf.g
  rw [states_f hk h, Option.bind_some]
  obtain ⟨h1, h2⟩ := lasting_fix h hc (k := k) (by omega)
  have := graph_l0 (m := (cnt G).toNat) hk h (by omega) (by omega) (cnt G).toNat 0 k (by omega) (by omega) (by omega)
  rw [h1, show (((cnt G).toNat : Nat) : Int) = cnt G by omega] at this
  refine Eq.trans this ?_
  rw [Option.map_some, show (cnt G).toNat = (lasting G).length by omega]

/-! ### The reference's -/

theorem filter_goodC_nil {G : List Int} {L : List Bool} {v : Int} {j d : Nat} : ((chsF j (d + 1)).filter (goodC G L v) = []) ↔ (goodC G L v ((j : Int) - 1) = false ∧ (chsF (j + 1) d).filter (goodC G L v) = []) := by
  rw [chsF_succ, List.filter_cons]
  cases goodC G L v ((j : Int) - 1) <;> simp

theorem lasting_l3 {k : Nat} {G : List Int} {L : List Bool} {v m : Nat} (hk : 2097152 ≤ k) (h : isT G = true) (hL : L.length = m) (hm : (m : Int) = cnt G) (hv : v < m) {ch : Bool} {r1 : (List Int) → Int → (List Bool) → Bool → Option ((List Bool))} {r2 : (List Int) → Int → (List Bool) → Bool → Int → Option ((List Bool))} :
    ∀ (d j n : Nat) (good : Bool), G.length + 1 - j = d → j ≤ G.length + 1 → d < n →
      spec_l02Lasting.l3 k r1 r2 n G m L ch v (ofN G v) good ((j : Int) - 1) = if good = true ∨ (chsF j d).filter (goodC G L v) ≠ [] then r2 G m L ch ((v + 1 : Nat) : Int) else r2 G m (L.set v false) true ((v + 1 : Nat) : Int) := by
  have hlen := isT_len h
  have hc := cnt_small (isT_gp h) (isT_len h).2
  have hst := ofN_st (v : Int) (isT_gp h)
  intro d
  induction d with
  | zero =>
    intro j n good hd hj hn
    cases n with
    | zero => omega
    | succ n =>
      simp only [spec_l02Lasting.l3, spec_l02Lasting.s3, l01K_f, Option.bind_some]
      rw [if_neg (by omega), w64n (by omega)]
      cases good with
      | true => simp [chsF]
      | false => rw [if_neg (by simp), if_pos (by omega), if_pos (by omega), Int.toNat_natCast]; simp [chsF]
  | succ d ih =>
    intro j n good hd hj hn
    cases n with
    | zero => omega
    | succ n =>
      have e1 : wrap64 ((j : Int) - 1 + 1) = ((j + 1 : Nat) : Int) - 1 := by rw [w64 (by omega) (by omega)]; omega
      simp only [spec_l02Lasting.l3, spec_l02Lasting.s3, l01K_f, Option.bind_some]
      rw [if_pos (by omega), w64n (by omega)]
      cases good with
      | true => simp
      | false =>
        simp only [Bool.false_eq_true, if_false, false_or]
        rw [l02Step_f hk h hst, Option.bind_some, e1]
        cases hs : step G (ofN G v) ((j : Int) - 1) with
        | none =>
          have hg : goodC G L v ((j : Int) - 1) = false := by simp [goodC, hs]
          simp only [stepR, Bool.false_eq_true, if_false]
          rw [ih (j + 1) n false (by omega) (by omega) (by omega)]
          simp [chsF_succ, List.filter_cons, hg]
        | some T =>
          obtain ⟨b0, b1, b2⟩ := ofN_num_bnd h hs
          have hg : goodC G L v ((j : Int) - 1) = L.getD (num G T).toNat false := by simp [goodC, hs]
          simp only [stepR, if_true, List.nil_append]
          rw [l02Number_f hk h b0, Option.bind_some, if_pos b1, if_pos (by omega), show rdOf false L (num G T) = L.getD (num G T).toNat false from rfl, ih (j + 1) n _ (by omega) (by omega) (by omega), ← hg]
          cases hb : goodC G L v ((j : Int) - 1) with
          | true => simp [chsF_succ, List.filter_cons, hb]
          | false => simp [chsF_succ, List.filter_cons, hb]

theorem lasting_l2 {k : Nat} {G : List Int} {m : Nat} (hk : 2097152 ≤ k) (h : isT G = true) (hm : (m : Int) = cnt G) {r1 : (List Int) → Int → (List Bool) → Bool → Option ((List Bool))} :
    ∀ (d i n : Nat) (L : List Bool) (ch : Bool), L.length = m → m - i = d → i ≤ m → d < n →
      spec_l02Lasting.l2 k r1 n G m L ch i = r1 G m (swp (goodK G) d i L ch).1 (swp (goodK G) d i L ch).2 := by
  have hc := cnt_small (isT_gp h) (isT_len h).2
  have hlen := isT_len h
  intro d
  induction d with
  | zero =>
    intro i n L ch hL hd hi hn
    cases n with
    | zero => omega
    | succ n =>
      simp only [spec_l02Lasting.l2, spec_l02Lasting.s2]
      rw [if_neg (by omega)]
      rfl
  | succ d ih =>
    intro i n L ch hL hd hi hn
    cases n with
    | zero => omega
    | succ n =>
      simp only [spec_l02Lasting.l2, spec_l02Lasting.s2]
      rw [if_pos (by omega), if_pos (by omega), if_pos (by omega), rdOf_nat, w64n (by omega), l02Of_f hk h (by omega) (by omega), Option.bind_some]
      have := lasting_l3 (L := L) (v := i) (m := m) (ch := ch) (r1 := r1) (r2 := spec_l02Lasting.l2 k r1 n) hk h hL hm (by omega) (G.length + 1) 0 k false (by omega) (by omega) (by omega)
      rw [show spec_l02Lasting.l3 k r1 (spec_l02Lasting.l2 k r1 n) k G m L ch i (ofN G i) false (-1) = _ from this]
      by_cases hb : L.getD i false = true
      · rw [if_pos hb]
        by_cases hg : keep G L i = []
        · rw [if_neg (by rw [keep, chs_eq] at hg; simp [hg]), swp_bad hb (goodK_f hg), ih (i + 1) n _ _ (by simpa using hL) (by omega) (by omega) (by omega)]
        · rw [if_pos (Or.inr (by rw [keep, chs_eq] at hg; exact hg)), swp_good hb (goodK_t hg), ih (i + 1) n _ _ hL (by omega) (by omega) (by omega)]
      · rw [if_neg hb, swp_end _ _ _ _ _ hb, ih (i + 1) n _ _ hL (by omega) (by omega) (by omega)]

theorem lasting_l1 {k : Nat} {G : List Int} {m : Nat} (hk : 2097152 ≤ k) (h : isT G = true) (hm : (m : Int) = cnt G) (hm2 : m ≤ 100000) : ∀ (n : Nat) (L : List Bool) (ch : Bool), L.length = m →
    spec_l02Lasting.l1 k n G m L ch = fixO (goodK G) n L ch
  | 0, L, ch, hL => rfl
  | n + 1, L, ch, hL => by
    simp only [spec_l02Lasting.l1, spec_l02Lasting.s1, fixO]
    cases ch with
    | false => simp
    | true =>
      simp only [if_true]
      have := lasting_l2 (r1 := spec_l02Lasting.l1 k n) hk h hm m 0 k L false hL (by omega) (by omega) (by omega)
      rw [show spec_l02Lasting.l2 k (spec_l02Lasting.l1 k n) k G m L false 0 = _ from this, lasting_l1 hk h hm hm2 n _ _ (by rw [swp_len]; exact hL), hL]

theorem fill_set (m i : Nat) (h : i < m) : (List.replicate i true ++ List.replicate (m - i) false).set i true = List.replicate (i + 1) true ++ List.replicate (m - (i + 1)) false := by
  rw [List.set_append_right _ _ (by simp), show m - i = (m - (i + 1)) + 1 by omega, List.replicate_succ, List.replicate_succ']
  simp

theorem lasting_l0 {k : Nat} {G : List Int} {m : Nat} (hk : 2097152 ≤ k) (h : isT G = true) (hm : (m : Int) = cnt G) (hm2 : m ≤ 100000) : ∀ (d i n : Nat), m - i = d → i ≤ m → d < n →
    spec_l02Lasting.l0 k n G m (List.replicate i true ++ List.replicate (m - i) false) m i = fixO (goodK G) k (List.replicate m true) true := by
  intro d
  induction d with
  | zero =>
    intro i n hd hi hn
    obtain rfl : i = m := by omega
    cases n with
    | zero => omega
    | succ n =>
      simp only [spec_l02Lasting.l0, spec_l02Lasting.s0]
      rw [if_neg (by omega), Nat.sub_self, List.replicate_zero, List.append_nil, lasting_l1 hk h hm hm2 k _ _ (by simp)]
  | succ d ih =>
    intro i n hd hi hn
    cases n with
    | zero => omega
    | succ n =>
      simp only [spec_l02Lasting.l0, spec_l02Lasting.s0]
      rw [if_pos (by omega), if_pos (by omega), if_pos (by simp; omega), Int.toNat_natCast, fill_set m i (by omega), w64n (by omega)]
      exact ih (i + 1) n (by omega) (by omega) (by omega)

theorem l02Lasting_f {k : Nat} {G : List Int} (hk : 2097152 ≤ k) (h : isT G = true) (hc : cnt G ≤ 4000) : spec_l02Lasting.f k G = some (lasting G) := by
  have hp := cnt_pos (isT_gp h)
  unfold spec_l02Lasting.f spec_l02Lasting.g
  rw [l02Count_f hk h, Option.bind_some, if_pos (by omega), if_pos (by omega), if_pos (by omega)]
  obtain ⟨h1, h2⟩ := lasting_fix h hc (k := k) (by omega)
  have := lasting_l0 (m := (cnt G).toNat) hk h (by omega) (by omega) (cnt G).toNat 0 k (by omega) (by omega) (by omega)
  rw [h1, show (((cnt G).toNat : Nat) : Int) = cnt G by omega] at this
  rw [List.length_replicate, show (((cnt G).toNat : Nat) : Int) = cnt G by omega]
  exact this

end Go.Proofs.Ytcbhhbkghbnljaa.Vf
