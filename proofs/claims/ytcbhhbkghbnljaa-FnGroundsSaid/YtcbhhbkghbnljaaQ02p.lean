/- The least play. -/
import Derived.Test.YtcbhhbkghbnljaaQ02a
set_option linter.unusedVariables false
set_option linter.unusedSimpArgs false
namespace Go.Proofs.Ytcbhhbkghbnljaa.Vf
open Go Go.V Go.RowKit

/-! ### What lasts is kept -/

theorem swp_flag (g : List Bool → Nat → Bool) : ∀ (d i : Nat) (L : List Bool), (swp g d i L true).2 = true
  | 0, i, L => rfl
  | d + 1, i, L => by
    by_cases hb : L.getD i false = true
    · by_cases hg : g L i = true
      · rw [swp_good hb hg]; exact swp_flag g d (i + 1) L
      · rw [swp_bad hb hg]; exact swp_flag g d (i + 1) _
    · rw [swp_end _ _ _ _ _ hb]; exact swp_flag g d (i + 1) L

theorem swp_still (g : List Bool → Nat → Bool) : ∀ (d i : Nat) (L : List Bool), (swp g d i L false).2 = false → (swp g d i L false).1 = L ∧ ∀ j, i ≤ j → j < i + d → L.getD j false = true → g L j = true
  | 0, i, L, _ => ⟨rfl, fun j h1 h2 => by omega⟩
  | d + 1, i, L, h => by
    by_cases hb : L.getD i false = true
    · by_cases hg : g L i = true
      · rw [swp_good hb hg] at h ⊢
        obtain ⟨h1, h2⟩ := swp_still g d (i + 1) L h
        refine ⟨h1, fun j h3 h4 h5 => ?_⟩
        by_cases e : j = i
        · rw [e]; exact hg
        · exact h2 j (by omega) (by omega) h5
      · rw [swp_bad hb hg, swp_flag] at h; cases h
    · rw [swp_end _ _ _ _ _ hb] at h ⊢
      obtain ⟨h1, h2⟩ := swp_still g d (i + 1) L h
      refine ⟨h1, fun j h3 h4 h5 => ?_⟩
      by_cases e : j = i
      · rw [e] at h5; exact absurd h5 hb
      · exact h2 j (by omega) (by omega) h5

theorem fix_good (g : List Bool → Nat → Bool) : ∀ (n : Nat) (L L' : List Bool) (ch : Bool), fixO g n L ch = some L' → (ch = false → ∀ j, j < L.length → L.getD j false = true → g L j = true) → ∀ j, j < L'.length → L'.getD j false = true → g L' j = true
  | 0, _, _, _, h, _ => by cases h
  | n + 1, L, L', false, h, hg => by
    obtain rfl : L = L' := by simpa [fixO] using h
    exact hg rfl
  | n + 1, L, L', true, h, hg => by
    have h' : fixO g n (swp g L.length 0 L false).1 (swp g L.length 0 L false).2 = some L' := by simpa [fixO] using h
    refine fix_good g n _ L' _ h' fun hf => ?_
    obtain ⟨h1, h2⟩ := swp_still g L.length 0 L hf
    rw [h1]
    exact fun j h3 h4 => h2 j (by omega) (by omega) h4

theorem lasting_good {G : List Int} (h : isT G = true) (hc : cnt G ≤ 4000) {v : Int} (h0 : 0 ≤ v) (h1 : v < cnt G) (hv : (lasting G).getD v.toNat false = true) : keep G (lasting G) v ≠ [] := by
  obtain ⟨h2, h3⟩ := lasting_fix (k := 4003) h hc (Nat.le_refl _)
  have := fix_good (goodK G) _ _ _ _ h2 (fun e => by cases e) v.toNat (by omega) hv
  unfold goodK at this
  rw [show ((v.toNat : Nat) : Int) = v by omega] at this
  simpa using this

/-- Where the first choice that keeps leads. -/
theorem keep_next {G : List Int} (h : isT G = true) (hc : cnt G ≤ 4000) {v : Int} (h0 : 0 ≤ v) (h1 : v < cnt G) (hv : (lasting G).getD v.toNat false = true) :
    ∃ c T, 0 < (keep G (lasting G) v).length ∧ rd (keep G (lasting G) v) 0 = c ∧ step G (ofN G v) c = some T ∧ Stt G T ∧ 0 ≤ num G T ∧ num G T < cnt G ∧ (lasting G).getD (num G T).toNat false = true ∧ mgI (nx G v) c = some (num G T) := by
  cases hk : keep G (lasting G) v with
  | nil => exact absurd hk (lasting_good h hc h0 h1 hv)
  | cons c r =>
    have hm : c ∈ keep G (lasting G) v := by rw [hk]; simp
    obtain ⟨hm1, hm2⟩ := List.mem_filter.1 hm
    obtain ⟨i, hi, rfl⟩ := List.mem_map.1 hm1
    have hi := List.mem_range.1 hi
    cases hs : step G (ofN G v) ((i : Int) - 1) with
    | none => simp [goodC, hs] at hm2
    | some T =>
      obtain ⟨b0, b1, b2⟩ := ofN_num_bnd h hs
      refine ⟨(i : Int) - 1, T, by simp, rfl, hs, b0, b1, b2, by simpa [goodC, hs] using hm2, ?_⟩
      rw [mgI_nx (by omega), hs]; rfl

/-! ### The play -/

theorem can_few {G : List Int} (h : isT G = true) (hc : cnt G ≤ 4000) : (canR G).1 = (lasting G).getD (cnt G - 1).toNat false := by
  unfold canR
  rw [if_pos (by unfold few; rw [if_pos h, if_neg (by omega)])]

def nextV (G : List Int) (v : Int) : Int := num G ((step G (ofN G v) (rd (keep G (lasting G) v) 0)).getD [])

def play (G : List Int) : Nat → Int → List Int → List Int → Option (List Int × List Int)
  | 0, _, _, _ => none
  | n + 1, v, came, out => if 0 ≤ rd came v then some (out.take (rd came v).toNat, out.drop (rd came v).toNat) else play G n (nextV G v) (came.set v.toNat out.length) (out ++ [rd (keep G (lasting G) v) 0])

def negs (l : List Int) : Nat := (l.filter fun x => decide (x < 0)).length

theorem negs_set : ∀ {l : List Int} {i : Nat} {x : Int}, i < l.length → l.getD i 0 < 0 → 0 ≤ x → negs (l.set i x) + 1 = negs l
  | [], i, x, h, _, _ => by simp at h
  | a :: l, 0, x, _, h, h0 => by
    have h1 : ¬ x < 0 := by omega
    have h2 : a < 0 := by simpa using h
    simp [negs, h1, h2]
  | a :: l, i + 1, x, hi, h, h0 => by
    have := negs_set (l := l) (i := i) (x := x) (by simpa using hi) (by simpa using h) h0
    unfold negs at this ⊢
    rw [List.set_cons_succ, List.filter_cons, List.filter_cons]
    by_cases e : a < 0
    · rw [if_pos (by simpa using e), if_pos (by simpa using e), List.length_cons, List.length_cons]; omega
    · rw [if_neg (by simpa using e), if_neg (by simpa using e)]; exact this

theorem negs_rep : ∀ (m : Nat), negs (List.replicate m (-1 : Int)) = m := by
  intro m
  induction m with
  | zero => rfl
  | succ m ih =>
    unfold negs at ih ⊢
    rw [List.replicate_succ, List.filter_cons, if_pos (by simp), List.length_cons, ih]

/-- What stands in each round. -/
structure PlayI (G : List Int) (v : Int) (came out : List Int) : Prop where
  v0 : 0 ≤ v
  v1 : v < cnt G
  lv : (lasting G).getD v.toNat false = true
  cl : (came.length : Int) = cnt G
  ol : (out.length : Int) + negs came = cnt G
  cb : ∀ i : Nat, i < came.length → rd came i ≤ out.length

theorem rd_set {l : List Int} {i j : Nat} {x : Int} (h : i < l.length) : rd (l.set i x) j = if j = i then x else rd l j := by
  rw [rd_nat, rd_nat, List.getD_eq_getElem?_getD, List.getD_eq_getElem?_getD, List.getElem?_set]
  by_cases e : i = j
  · subst e; rw [if_pos rfl, if_pos h, if_pos rfl]; rfl
  · rw [if_neg e, if_neg (fun c => e c.symm)]

theorem PlayI.next {G came out : List Int} {v : Int} (h : isT G = true) (hc : cnt G ≤ 4000) (I : PlayI G v came out) (hn : ¬ 0 ≤ rd came v) :
    PlayI G (nextV G v) (came.set v.toNat out.length) (out ++ [rd (keep G (lasting G) v) 0]) := by
  obtain ⟨c, T, _, hr, hs, h2, h3, h4, h5, _⟩ := keep_next h hc I.v0 I.v1 I.lv
  have e : nextV G v = num G T := by unfold nextV; rw [hr, hs]; rfl
  have hv0 := I.v0; have hv1 := I.v1; have hcl := I.cl; have hol := I.ol
  have hlen : v.toNat < came.length := by omega
  have hneg := negs_set (l := came) (i := v.toNat) (x := (out.length : Int)) hlen (by
    have : rd came v = came.getD v.toNat 0 := rfl
    omega) (by omega)
  rw [e]
  refine ⟨h3, h4, h5, by simpa using hcl, by simp; omega, fun i hi => ?_⟩
  have hi' : i < came.length := by simpa using hi
  rw [rd_set hlen]
  split
  · simp; omega
  · have := I.cb i hi'
    simp; omega

theorem play_some {G : List Int} (h : isT G = true) (hc : cnt G ≤ 4000) : ∀ (n : Nat) (v : Int) (came out : List Int), PlayI G v came out → negs came < n → ∃ r, play G n v came out = some r ∧ r.1.length ≤ 4000 ∧ r.2.length ≤ 4000
  | 0, v, came, out, I, hn => by omega
  | n + 1, v, came, out, I, hn => by
    unfold play
    have hol := I.ol
    by_cases hb : 0 ≤ rd came v
    · rw [if_pos hb]
      exact ⟨_, rfl, by simp; omega, by simp; omega⟩
    · rw [if_neg hb]
      have hv0 := I.v0; have hv1 := I.v1; have hcl := I.cl
      have hneg := negs_set (l := came) (i := v.toNat) (x := (out.length : Int)) (by omega) (by
        have : rd came v = came.getD v.toNat 0 := rfl
        omega) (by omega)
      exact play_some h hc n _ _ _ (I.next h hc hb) (by omega)

theorem own_f {l : List Int} (hl : l.length ≤ 1048576) : spec_l01Own.f l = some l := by
  unfold spec_l01Own.f
  rw [if_pos (by omega), List.nil_append]

def playR (G : List Int) : List Int × List Int × Int := if few G = 0 then (if (canR G).1 = true then (match play G 4001 (cnt G - 1) (List.replicate (cnt G).toNat (-1)) [] with | some r => (r.1, r.2, 0) | none => ([], [], 0)) else ([], [], 4)) else ([], [], few G)

theorem play_mono (G : List Int) : ∀ (n n' : Nat) (v : Int) (came out : List Int) (r : List Int × List Int), n ≤ n' → play G n v came out = some r → play G n' v came out = some r
  | 0, _, _, _, _, _, _, h => by cases h
  | n + 1, 0, _, _, _, _, h, _ => by omega
  | n + 1, n' + 1, v, came, out, r, h, e => by
    unfold play at e ⊢
    by_cases hb : 0 ≤ rd came v
    · rw [if_pos hb] at e ⊢; exact e
    · rw [if_neg hb] at e ⊢
      exact play_mono G n n' _ _ _ r (by omega) e

theorem play_start {G : List Int} (h : isT G = true) (hc : cnt G ≤ 4000) (hs : (canR G).1 = true) : PlayI G (cnt G - 1) (List.replicate (cnt G).toNat (-1)) [] := by
  have hp := cnt_pos (isT_gp h)
  refine ⟨by omega, by omega, by rw [← can_few h hc]; exact hs, by simp; omega, by rw [negs_rep]; simp; omega, fun i hi => ?_⟩
  have hi' : i < (cnt G).toNat := by simpa using hi
  rw [rd_lt hi]
  simp

theorem playR_eq {G : List Int} (hf : few G = 0) (hs : (canR G).1 = true) : ∃ r, play G 4001 (cnt G - 1) (List.replicate (cnt G).toNat (-1)) [] = some r ∧ playR G = (r.1, r.2, 0) ∧ r.1.length ≤ 4000 ∧ r.2.length ≤ 4000 := by
  obtain ⟨h, hc⟩ := few_zero hf
  obtain ⟨r, h1, h2, h3⟩ := play_some h hc 4001 _ _ _ (play_start h hc hs) (by rw [negs_rep]; omega)
  refine ⟨r, h1, ?_, h2, h3⟩
  unfold playR
  rw [if_pos hf, if_pos hs, h1]

theorem playR_len (G : List Int) : (playR G).1.length ≤ 4000 ∧ (playR G).2.1.length ≤ 4000 := by
  by_cases hf : few G = 0
  · by_cases hs : (canR G).1 = true
    · obtain ⟨r, _, h1, h2, h3⟩ := playR_eq hf hs
      rw [h1]; exact ⟨h2, h3⟩
    · unfold playR; rw [if_pos hf, if_neg hs]; simp
  · unfold playR; rw [if_neg hf]; simp

theorem ofN_full {G : List Int} (h : isT G = true) : ofN G (cnt G - 1) = G := by
  rw [← num_self (isT_gp h)]; exact ofN_num (isT_gp h) (stt_self (isT_gp h))

def servR (G : List Int) : Option (List Int × List (List (Int × Int)) × List Bool) × Int := if few G = 0 then (if (canR G).1 = true then (some (G, nxs G (lasting G).length, lasting G), 0) else (none, 4)) else (none, few G)

end Go.Proofs.Ytcbhhbkghbnljaa.Vf
