/- Which states last: what the functions of program and reference give. -/
import Derived.Test.YtcbhhbkghbnljaaQ02
set_option linter.unusedVariables false
set_option linter.unusedSimpArgs false
namespace Go.Proofs.Ytcbhhbkghbnljaa.Vf
open Go Go.V Go.RowKit

/-- Choices from a place on. -/
def chsF (j d : Nat) : List Int := (List.range' j d).map fun i : Nat => (i : Int) - 1

theorem chsF_succ (j d : Nat) : chsF j (d + 1) = ((j : Int) - 1) :: chsF (j + 1) d := by
  simp [chsF, List.range'_succ]

theorem chs_eq (m : Nat) : chs m = chsF 0 (m + 1) := by
  unfold chs chsF
  rw [List.range_eq_range']

/-! ### Maps -/

theorem mgI_nil {α : Type} (x : Int) : mgI ([] : List (Int × α)) x = none := rfl
theorem mgI_cons {α : Type} (a : Int) (y : α) (l : List (Int × α)) (x : Int) : mgI ((a, y) :: l) x = if x = a then some y else mgI l x := by
  show (match keyI x a with | true => some y | false => mget (.int .i64) l x) = _
  by_cases h : x = a
  · rw [(keyI_iff x a).2 h, if_pos h]
  · rw [if_neg h]
    cases hk : keyI x a with
    | true => exact absurd ((keyI_iff x a).1 hk) h
    | false => rfl
theorem mpI_nil {α : Type} (x : Int) (y : α) : mpI ([] : List (Int × α)) x y = [(x, y)] := rfl
theorem mpI_cons {α : Type} (a : Int) (z : α) (l : List (Int × α)) (x : Int) (y : α) : mpI ((a, z) :: l) x y = if x = a then (x, y) :: l else (a, z) :: mpI l x y := by
  show (match keyI x a with | true => (x, y) :: l | false => (a, z) :: mput (.int .i64) l x y) = _
  by_cases h : x = a
  · rw [(keyI_iff x a).2 h, if_pos h]
  · rw [if_neg h]
    cases hk : keyI x a with
    | true => exact absurd ((keyI_iff x a).1 hk) h
    | false => rfl

theorem mpI_new {α : Type} {l : List (Int × α)} {x : Int} {y : α} (h : ∀ p ∈ l, p.1 ≠ x) : mpI l x y = l ++ [(x, y)] := by
  induction l with
  | nil => rfl
  | cons p l ih =>
    obtain ⟨a, z⟩ := p
    rw [mpI_cons, if_neg (fun e => h (a, z) (by simp) e.symm), ih (fun p hp => h p (by simp [hp]))]
    rfl

theorem mgI_none {α : Type} {l : List (Int × α)} {x : Int} (h : ∀ p ∈ l, p.1 ≠ x) : mgI l x = none := by
  induction l with
  | nil => rfl
  | cons p l ih =>
    obtain ⟨a, z⟩ := p
    rw [mgI_cons, if_neg (fun e => h (a, z) (by simp) e.symm), ih (fun p hp => h p (by simp [hp]))]

theorem mgI_mpI {α : Type} (l : List (Int × α)) (x z : Int) (y : α) : mgI (mpI l x y) z = if z = x then some y else mgI l z := by
  induction l with
  | nil => rw [mpI_nil, mgI_cons]
  | cons p l ih =>
    obtain ⟨a, w⟩ := p
    rw [mpI_cons]
    by_cases h : x = a
    · rw [if_pos h, mgI_cons]
      subst h
      by_cases h2 : z = x
      · rw [if_pos h2, if_pos h2]
      · rw [if_neg h2, if_neg h2, mgI_cons, if_neg h2]
    · rw [if_neg h, mgI_cons, ih, mgI_cons]
      by_cases h2 : z = a
      · rw [if_pos h2, if_pos h2, if_neg (fun e => h (e.symm.trans h2))]
      · rw [if_neg h2, if_neg h2]

/-! ### The choices of a state, with the states behind them -/

/-- Where a choice in the state numbered leads. -/
def ent (G : List Int) (v : Int) (c : Int) : Option (Int × Int) := (step G (ofN G v) c).map fun T => (c, num G T)

def nxF (G : List Int) (v : Int) (j d : Nat) : List (Int × Int) := (chsF j d).filterMap (ent G v)

/-- All of a state. -/
def nx (G : List Int) (v : Int) : List (Int × Int) := nxF G v 0 (G.length + 1)

theorem nxF_succ (G : List Int) (v : Int) (j d : Nat) : nxF G v j (d + 1) = (match ent G v ((j : Int) - 1) with | some p => p :: nxF G v (j + 1) d | none => nxF G v (j + 1) d) := by
  unfold nxF
  rw [chsF_succ, List.filterMap_cons]
  cases ent G v ((j : Int) - 1) <;> rfl

theorem nxF_ge (G : List Int) (v : Int) : ∀ (d j : Nat), ∀ p ∈ nxF G v j d, (j : Int) - 1 ≤ p.1 := by
  intro d j p hp
  unfold nxF at hp
  obtain ⟨c, hc, he⟩ := List.mem_filterMap.1 hp
  obtain ⟨i, hi, rfl⟩ := List.mem_map.1 hc
  unfold ent at he
  obtain ⟨T, _, rfl⟩ := Option.map_eq_some_iff.1 he
  have := List.mem_range'_1.1 hi
  show (j : Int) - 1 ≤ (i : Int) - 1
  omega

theorem mgI_nxF (G : List Int) (v : Int) : ∀ (d j i : Nat), j ≤ i → i < j + d → mgI (nxF G v j d) ((i : Int) - 1) = (step G (ofN G v) ((i : Int) - 1)).map (num G)
  | 0, j, i, h1, h2 => by omega
  | d + 1, j, i, h1, h2 => by
    rw [nxF_succ]
    by_cases e : i = j
    · subst e
      unfold ent
      cases hs : step G (ofN G v) ((i : Int) - 1) with
      | none =>
        simp only [Option.map_none]
        exact mgI_none fun p hp e => by have := nxF_ge G v d (i + 1) p hp; omega
      | some T => simp only [Option.map_some]; rw [mgI_cons, if_pos rfl]
    · have ih := mgI_nxF G v d (j + 1) i (by omega) (by omega)
      unfold ent
      cases hs : step G (ofN G v) ((j : Int) - 1) with
      | none => exact ih
      | some T =>
        simp only [Option.map_some]
        rw [mgI_cons, if_neg (by omega)]
        exact ih

theorem mgI_nx {G : List Int} {v : Int} {i : Nat} (h : i ≤ G.length) : mgI (nx G v) ((i : Int) - 1) = (step G (ofN G v) ((i : Int) - 1)).map (num G) :=
  mgI_nxF G v (G.length + 1) 0 i (by omega) (by omega)

/-- All maps. -/
def nxs (G : List Int) (m : Nat) : List (List (Int × Int)) := (List.range m).map fun i : Nat => nx G (i : Int)

theorem rdOf_nxs {G : List Int} {m i : Nat} (h : i < m) : rdOf ([] : List (Int × Int)) (nxs G m) (i : Int) = nx G (i : Int) := by
  rw [rdOf_lt (by simp [nxs]; exact h)]
  simp [nxs]

theorem getD_set_same {L : List Bool} {i : Nat} {b d : Bool} (h : i < L.length) : (L.set i b).getD i d = b := by
  rw [List.getD_eq_getElem?_getD, List.getElem?_set_self (by omega)]; rfl

/-! ### What the program's graph holds -/

theorem ofN_num_bnd {G : List Int} {v c : Int} {T : List Int} (h : isT G = true) (hs : step G (ofN G v) c = some T) : Stt G T ∧ 0 ≤ num G T ∧ num G T < cnt G := by
  have h1 := step_st (isT_gp h) (ofN_st v (isT_gp h)) hs
  exact ⟨h1, num_bnd (isT_gp h) h1⟩

def goodK (G : List Int) (L : List Bool) (i : Nat) : Bool := (keep G L i) != []
theorem goodK_t {G : List Int} {L : List Bool} {i : Nat} (h : keep G L i ≠ []) : goodK G L i = true := by simp [goodK, h]
theorem goodK_f {G : List Int} {L : List Bool} {i : Nat} (h : keep G L i = []) : ¬ goodK G L i = true := by simp [goodK, h]
theorem swp_end (g : List Bool → Nat → Bool) (d i : Nat) (L : List Bool) (ch : Bool) (hb : ¬ L.getD i false = true) : swp g (d + 1) i L ch = swp g d (i + 1) L ch := if_neg hb
theorem swp_good {g : List Bool → Nat → Bool} {d i : Nat} {L : List Bool} {ch : Bool} (hb : L.getD i false = true) (hg : g L i = true) : swp g (d + 1) i L ch = swp g d (i + 1) L ch := (if_pos hb).trans (if_pos hg)
theorem swp_bad {g : List Bool → Nat → Bool} {d i : Nat} {L : List Bool} {ch : Bool} (hb : L.getD i false = true) (hg : ¬ g L i = true) : swp g (d + 1) i L ch = swp g d (i + 1) (L.set i false) true := (if_pos hb).trans (if_neg hg)

theorem swp_set_len (L : List Bool) (i : Nat) : (L.set i false).length = L.length := by simp

theorem nxs_succ (G : List Int) (m : Nat) : nxs G (m + 1) = nxs G m ++ [nx G m] := by
  simp [nxs, List.range_succ]

theorem fix_mono (good : List Bool → Nat → Bool) : ∀ (n n' : Nat) (L L' : List Bool) (ch : Bool), n ≤ n' → fixO good n L ch = some L' → fixO good n' L ch = some L'
  | 0, _, _, _, _, _, h => by cases h
  | n + 1, 0, _, _, _, h, _ => by omega
  | n + 1, n' + 1, L, L', ch, h, e => by
    cases ch with
    | false => exact e
    | true => exact fix_mono good n n' _ _ _ (by omega) e

theorem lasting_fix {G : List Int} (h : isT G = true) (hc : cnt G ≤ 4000) {k : Nat} (hk : 4003 ≤ k) : fixO (goodK G) k (List.replicate (cnt G).toNat true) true = some (lasting G) ∧ ((lasting G).length : Int) = cnt G := by
  have hp := cnt_pos (isT_gp h)
  obtain ⟨L', h1, h2⟩ := fix_some (goodK G) 4003 (List.replicate (cnt G).toNat true) true (by have := trues_le (List.replicate (cnt G).toNat true); simp at this; omega)
  have e : lasting G = L' := by
    unfold lasting
    rw [show (fun L i => (keep G L (i : Nat)) != []) = goodK G from rfl, h1]; rfl
  rw [e]
  refine ⟨fix_mono _ _ _ _ _ _ hk h1, ?_⟩
  rw [h2]; simp; omega

/-! ### The reference's -/

theorem filter_goodC_nil {G : List Int} {L : List Bool} {v : Int} {j d : Nat} : ((chsF j (d + 1)).filter (goodC G L v) = []) ↔ (goodC G L v ((j : Int) - 1) = false ∧ (chsF (j + 1) d).filter (goodC G L v) = []) := by
  rw [chsF_succ, List.filter_cons]
  cases goodC G L v ((j : Int) - 1) <;> simp

theorem fill_set (m i : Nat) (h : i < m) : (List.replicate i true ++ List.replicate (m - i) false).set i true = List.replicate (i + 1) true ++ List.replicate (m - (i + 1)) false := by
  rw [List.set_append_right _ _ (by simp), show m - i = (m - (i + 1)) + 1 by omega, List.replicate_succ, List.replicate_succ']
  simp

end Go.Proofs.Ytcbhhbkghbnljaa.Vf
