/- Which states with a place are safe. -/
import Derived.Test.YtcbhhbkghbnljaaQ09
set_option linter.unusedVariables false
set_option linter.unusedSimpArgs false
namespace Go.Proofs.Ytcbhhbkghbnljaa.Vf
open Go Go.V Go.RowKit

/-- The first move to one that is left. -/
noncomputable def firstM (r : Int) (G : List Int) (L : List Bool) (x : Int) : Option Int := (mvs r G x).find? fun y => L.getD y.toNat false
noncomputable def goodW (r : Int) (G : List Int) (L : List Bool) (i : Nat) : Bool := (firstM r G L i).isSome
def initW (G : List Int) (i : Nat) : Bool := decide (rd (ofN G ((i : Int) / (G.length : Int))) ((i : Int) % (G.length : Int)) = rd G ((i : Int) % (G.length : Int)))
def allW (G : List Int) : Nat := (cnt G * (G.length : Int)).toNat
def inits (G : List Int) (m : Nat) : List Bool := (List.range m).map (initW G)
/-- What is safe. -/
noncomputable def safe (r : Int) (G : List Int) : List Bool := (fixO (goodW r G) 20003 (inits G (allW G)) true).getD []

theorem Wt.all {p r : Int} {G : List Int} (W : Wt p r G) : (allW G : Int) = cnt G * (G.length : Int) ∧ 1 ≤ cnt G * (G.length : Int) ∧ cnt G * (G.length : Int) ≤ 20000 := by
  have h1 := W.s
  have h2 := W.c
  have h3 := W.l
  have h4 := W.p1
  rw [Int.mul_comm, ← h3] at h1
  have h5 := Int.mul_le_mul h2.1 (show 1 ≤ (G.length : Int) by omega) (by omega) (by omega)
  unfold allW
  omega

theorem fixO_mono (good : List Bool → Nat → Bool) : ∀ (n n' : Nat) (L L' : List Bool) (ch : Bool), n ≤ n' → fixO good n L ch = some L' → fixO good n' L ch = some L' := fix_mono good

theorem safe_fix {p r : Int} {G : List Int} (W : Wt p r G) {k : Nat} (hk : 20003 ≤ k) : fixO (goodW r G) k (inits G (allW G)) true = some (safe r G) ∧ (safe r G).length = allW G := by
  have h1 := W.all
  obtain ⟨L', h2, h3⟩ := fix_some (goodW r G) 20003 (inits G (allW G)) true (by have := trues_le (inits G (allW G)); simp [inits] at this ⊢; omega)
  have e : safe r G = L' := by unfold safe; rw [h2]; rfl
  rw [e]
  exact ⟨fix_mono _ _ _ _ _ _ hk h2, by rw [h3]; simp [inits]⟩

theorem inits_succ (G : List Int) (m : Nat) : inits G (m + 1) = inits G m ++ [initW G m] := by simp [inits, List.range_succ]
theorem inits_len (G : List Int) (m : Nat) : (inits G m).length = m := by simp [inits]

/-! ### The reference's -/

theorem safe_l3 {k : Nat} {p r : Int} {G : List Int} {L : List Bool} {i : Nat} {ch : Bool} (W : Wt p r G) (hk : 2097152 ≤ k) (hL : L.length = allW G) (hi : i < allW G) {M : Int} {r1 : Int → Int → (List Int) → (List Bool) → Bool → Option ((List Bool))} {r2 : Int → Int → (List Int) → (List Bool) → Bool → Int → Int → Option ((List Bool))} :
    ∀ (d j n : Nat) (a : Bool), G.length - j = d → j ≤ G.length → d < n →
      spec_l09Safe.l3 k r1 r2 n p r G L ch i (ofN G ((i : Int) / (G.length : Int))) ((i : Int) % (G.length : Int)) a j M i =
        if a = true ∨ ((mvF r G i j d).find? fun y => L.getD y.toNat false).isSome = true then r2 p r G L ch M ((i + 1 : Nat) : Int) else r2 p r G (L.set i false) true M ((i + 1 : Nat) : Int) := by
  have hl := isT_len W.t
  have hwl := W.l
  have hp := W.p1
  have hw := W.all
  have hst := ofN_st ((i : Int) / (G.length : Int)) (isT_gp W.t)
  have m1 := Int.emod_nonneg (i : Int) (show (G.length : Int) ≠ 0 by omega)
  have m2 := Int.emod_lt_of_pos (i : Int) (show 0 < (G.length : Int) by omega)
  intro d
  induction d with
  | zero =>
    intro j n a hd hj hn
    cases n with
    | zero => omega
    | succ n =>
      simp only [spec_l09Safe.l3, spec_l09Safe.s3]
      rw [if_neg (by omega), w64n (by omega)]
      cases a with
      | true => simp
      | false => rw [if_neg (by simp), if_pos (by omega), if_pos (by omega), Int.toNat_natCast]; simp [mvF]
  | succ d ih =>
    intro j n a hd hj hn
    cases n with
    | zero => omega
    | succ n =>
      simp only [spec_l09Safe.l3, spec_l09Safe.s3]
      rw [if_pos (by omega), w64n (i := i) (by omega)]
      cases a with
      | true => simp
      | false =>
        rw [if_neg (by simp), w64n (by omega), (near_ok m1 (by omega) (show (0 : Int) ≤ (j : Int) by omega) (by omega)).1, Option.bind_some, mvF_succ]
        have hb := fun (y : Int) (e : mvN G (ofN G ((i : Int) / (G.length : Int))) (j : Int) = some y) => mvN_bnd (t := (j : Int)) W.t hst (by omega) (by omega) e
        unfold mvO
        by_cases hn' : nearV r ((i : Int) % (G.length : Int)) (j : Int) = true
        · rw [if_pos hn', if_pos hn', l09Move_f hk W.t hst (by omega) (by omega), Option.bind_some]
          cases hm : mvN G (ofN G ((i : Int) / (G.length : Int))) (j : Int) with
          | none =>
            rw [Option.getD_none, if_neg (by omega), ih (j + 1) n false (by omega) (by omega) (by omega)]
          | some y =>
            obtain ⟨b1, b2⟩ := hb y hm
            rw [Option.getD_some, if_pos b1, if_pos b1, if_pos (by omega), ih (j + 1) n _ (by omega) (by omega) (by omega), List.find?_cons]
            cases hy : L.getD y.toNat false with
            | true => rw [if_pos (Or.inl (show rdOf false L y = true from hy)), if_pos (by simp)]
            | false =>
              have hf : rdOf false L y = false := hy
              rw [hf]
        · rw [if_neg hn', if_neg hn', ih (j + 1) n false (by omega) (by omega) (by omega)]

theorem safe_l2 {k : Nat} {p r : Int} {G : List Int} (W : Wt p r G) (hk : 2097152 ≤ k) {r1 : Int → Int → (List Int) → (List Bool) → Bool → Option ((List Bool))} :
    ∀ (d i n : Nat) (L : List Bool) (ch : Bool), L.length = allW G → allW G - i = d → i ≤ allW G → d < n →
      spec_l09Safe.l2 k r1 n p r G L ch (allW G) i = r1 p r G (swp (goodW r G) d i L ch).1 (swp (goodW r G) d i L ch).2 := by
  have hw := W.all
  have hl := isT_len W.t
  intro d
  induction d with
  | zero =>
    intro i n L ch hL hd hi hn
    cases n with
    | zero => omega
    | succ n =>
      simp only [spec_l09Safe.l2, spec_l09Safe.s2]
      rw [if_neg (by omega)]
      rfl
  | succ d ih =>
    intro i n L ch hL hd hi hn
    cases n with
    | zero => omega
    | succ n =>
      simp only [spec_l09Safe.l2, spec_l09Safe.s2]
      rw [if_pos (by omega), if_pos (by omega), if_pos (by omega), rdOf_nat, w64n (by omega), l09State_f hk W.t (by omega) (by omega), Option.bind_some]
      have := safe_l3 (L := L) (i := i) (ch := ch) (M := (allW G : Int)) (r1 := r1) (r2 := spec_l09Safe.l2 k r1 n) W hk hL (by omega) G.length 0 k false (by omega) (by omega) (by omega)
      by_cases hb : L.getD i false = true
      · rw [if_pos hb]
        refine Eq.trans this ?_
        by_cases hg : goodW r G L i = true
        · rw [if_pos (Or.inr (show (List.find? (fun y => L.getD y.toNat false) (mvF r G i 0 G.length)).isSome = true from hg)), swp_good hb hg, ih (i + 1) n _ _ hL (by omega) (by omega) (by omega)]
        · rw [if_neg (by rintro (h | h); · cases h
                         · exact hg h), swp_bad hb hg, ih (i + 1) n _ _ (by simpa using hL) (by omega) (by omega) (by omega)]
      · rw [if_neg hb, swp_end _ _ _ _ _ hb, ih (i + 1) n _ _ hL (by omega) (by omega) (by omega)]

theorem safe_l1 {k : Nat} {p r : Int} {G : List Int} (W : Wt p r G) (hk : 2097152 ≤ k) : ∀ (n : Nat) (L : List Bool) (ch : Bool), L.length = allW G →
    spec_l09Safe.l1 k n p r G L ch = fixO (goodW r G) n L ch
  | 0, L, ch, hL => rfl
  | n + 1, L, ch, hL => by
    have hw := W.all
    simp only [spec_l09Safe.l1, spec_l09Safe.s1, fixO]
    cases ch with
    | false => simp
    | true =>
      simp only [if_true]
      have := safe_l2 (r1 := spec_l09Safe.l1 k n) W hk (allW G) 0 k L false hL (by omega) (by omega) (by omega)
      rw [hL]
      refine Eq.trans this ?_
      rw [safe_l1 W hk n _ _ (by rw [swp_len]; exact hL)]

theorem safe_l0 {k : Nat} {p r : Int} {G : List Int} (W : Wt p r G) (hk : 2097152 ≤ k) : ∀ (d i n : Nat), allW G - i = d → i ≤ allW G → d < n →
    spec_l09Safe.l0 k n p r G (inits G i ++ List.replicate (allW G - i) false) (allW G) i = fixO (goodW r G) k (inits G (allW G)) true := by
  have hw := W.all
  have hl := isT_len W.t
  intro d
  induction d with
  | zero =>
    intro i n hd hi hn
    obtain rfl : i = allW G := by omega
    cases n with
    | zero => omega
    | succ n =>
      simp only [spec_l09Safe.l0, spec_l09Safe.s0]
      rw [if_neg (by omega), Nat.sub_self, List.replicate_zero, List.append_nil, safe_l1 W hk k _ _ (inits_len G _)]
  | succ d ih =>
    intro i n hd hi hn
    cases n with
    | zero => omega
    | succ n =>
      have m1 := Int.emod_nonneg (i : Int) (show (G.length : Int) ≠ 0 by omega)
      have m2 := Int.emod_lt_of_pos (i : Int) (show 0 < (G.length : Int) by omega)
      have hol := ofN_len G ((i : Int) / (G.length : Int))
      simp only [spec_l09Safe.l0, spec_l09Safe.s0]
      rw [if_pos (by omega), l09State_f hk W.t (by omega) (by omega), Option.bind_some, if_pos m1, if_pos (show (i : Int) % (G.length : Int) < ((ofN G ((i : Int) / (G.length : Int))).length : Int) by omega), if_pos m1, if_pos m2, if_pos (by omega), if_pos (by simp [inits_len]; omega), Int.toNat_natCast, w64n (by omega)]
      have : (inits G i ++ List.replicate (allW G - i) false).set i (initW G i) = inits G (i + 1) ++ List.replicate (allW G - (i + 1)) false := by
        rw [List.set_append_right _ _ (by rw [inits_len]; omega), inits_len, show allW G - i = (allW G - (i + 1)) + 1 by omega, List.replicate_succ, inits_succ]
        simp
      rw [show (decide (rd (ofN G ((i : Int) / (G.length : Int))) ((i : Int) % (G.length : Int)) = rd G ((i : Int) % (G.length : Int)))) = initW G i from rfl, this]
      exact ih (i + 1) n (by omega) (by omega) (by omega)

theorem l09Safe_f {k : Nat} {p r : Int} {G : List Int} (W : Wt p r G) (hk : 2097152 ≤ k) : spec_l09Safe.f k p r G = some (safe r G) := by
  have hw := W.all
  have hwl := W.l
  have hp := W.p1
  unfold spec_l09Safe.f spec_l09Safe.g
  rw [size_f hk W.t hp.1 (by omega), Option.bind_some, ← hwl, Int.mul_comm, ← hw.1, if_pos (by omega), if_pos (by omega), if_pos (by omega), Int.toNat_natCast, List.length_replicate]
  have := safe_l0 W hk (allW G) 0 k (by omega) (by omega) (by omega)
  rw [(safe_fix W (k := k) (by omega)).1, ← hwl] at this
  exact this

/-! ### The program's -/

noncomputable def nextsW (r : Int) (G : List Int) (m : Nat) : List (List Int) := (List.range m).map fun i : Nat => mvs r G (i : Int)
theorem nextsW_succ (r : Int) (G : List Int) (m : Nat) : nextsW r G (m + 1) = nextsW r G m ++ [mvs r G m] := by simp [nextsW, List.range_succ]
theorem nextsW_len (r : Int) (G : List Int) (m : Nat) : (nextsW r G m).length = m := by simp [nextsW]
theorem rdOf_nextsW {r : Int} {G : List Int} {m i : Nat} (h : i < m) : rdOf ([] : List Int) (nextsW r G m) (i : Int) = mvs r G (i : Int) := by
  rw [rdOf_lt (by rw [nextsW_len]; exact h)]
  simp [nextsW]

theorem move_loop {k : Nat} {p r : Int} {G : List Int} {X : List (List Int)} {L : List Bool} {l : List Int} (hl : l.length ≤ 1000) (hb : ∀ y ∈ l, 0 ≤ y ∧ y < L.length) : ∀ (d i n : Nat), l.length - i = d → i ≤ l.length → d < n →
    impl_watch_move.l0 k n ((p, r), G, X, L) l l.length i = some (((l.drop i).find? fun y => L.getD y.toNat false).getD (-1)) := by
  intro d
  induction d with
  | zero =>
    intro i n hd hi hn
    cases n with
    | zero => omega
    | succ n =>
      simp only [impl_watch_move.l0, impl_watch_move.s0]
      rw [if_neg (by omega), List.drop_eq_nil_of_le (by omega)]
      rfl
  | succ d ih =>
    intro i n hd hi hn
    cases n with
    | zero => omega
    | succ n =>
      obtain ⟨b1, b2⟩ := hb _ (rd_mem (l := l) (i := i) (by omega))
      simp only [impl_watch_move.l0, impl_watch_move.s0]
      rw [if_pos (by omega), if_pos (by omega), if_pos (by omega), if_pos b1, if_pos b2, drop_cons (by omega), List.find?_cons]
      cases hy : L.getD (rd l i).toNat false with
      | true => rw [if_pos (show rdOf false L (rd l i) = true from hy)]; rfl
      | false =>
        rw [if_neg (show ¬ rdOf false L (rd l i) = true from by rw [show rdOf false L (rd l i) = false from hy]; simp), w64n (by omega), ih (i + 1) n (by omega) (by omega) (by omega)]

theorem mvs_len (r : Int) (G : List Int) (x : Int) : (mvs r G x).length ≤ G.length := by
  unfold mvs mvF
  refine Nat.le_trans (List.length_filterMap_le _ _) ?_
  simp

theorem move_f {k : Nat} {p r : Int} {G : List Int} (W : Wt p r G) (hk : 2097152 ≤ k) {L : List Bool} (hL : L.length = allW G) {i : Nat} (hi : i < allW G) : impl_watch_move.f k ((p, r), G, nextsW r G (allW G), L) i = some ((firstM r G L i).getD (-1)) := by
  have hw := W.all
  have hl := isT_len W.t
  unfold impl_watch_move.f impl_watch_move.g
  have hlen := mvs_len r G i
  simp only [nextsW_len, rdOf_nextsW hi]
  rw [if_pos (by omega), if_pos (by omega)]
  have := move_loop (k := k) (p := p) (r := r) (G := G) (X := nextsW r G (allW G)) (L := L) (l := mvs r G i) (by omega) (fun y hy => by have := mvF_bnd W.t (by omega) y hy; omega) (mvs r G i).length 0 k (by omega) (by omega) (by omega)
  exact this

theorem find_nonneg {r : Int} {G : List Int} {L : List Bool} {x y : Int} (h : isT G = true) (e : firstM r G L x = some y) : 0 ≤ y ∧ y < cnt G * (G.length : Int) ∧ L.getD y.toNat false = true :=
  ⟨(mvF_bnd h (by omega) y (List.mem_of_find?_eq_some e)).1, (mvF_bnd h (by omega) y (List.mem_of_find?_eq_some e)).2, by have := List.find?_some (p := fun y : Int => L.getD y.toNat false) (l := mvs r G x) (a := y) e; exact this⟩

theorem watch_l2 {k : Nat} {p r : Int} {G : List Int} (W : Wt p r G) (hk : 2097152 ≤ k) {r1 : Int → Int → (List Int) → (List (List Int)) → (List Bool) → Bool → Option (((Int × Int) × (List Int) × (List (List Int)) × (List Bool)))} :
    ∀ (d i n : Nat) (L : List Bool) (ch : Bool), L.length = allW G → allW G - i = d → i ≤ allW G → d < n →
      impl_watchOf.l2 k r1 n p r G (nextsW r G (allW G)) L ch (allW G) i = r1 p r G (nextsW r G (allW G)) (swp (goodW r G) d i L ch).1 (swp (goodW r G) d i L ch).2 := by
  have hw := W.all
  have hl := isT_len W.t
  intro d
  induction d with
  | zero =>
    intro i n L ch hL hd hi hn
    cases n with
    | zero => omega
    | succ n =>
      simp only [impl_watchOf.l2, impl_watchOf.s2]
      rw [if_neg (by omega)]
      rfl
  | succ d ih =>
    intro i n L ch hL hd hi hn
    cases n with
    | zero => omega
    | succ n =>
      simp only [impl_watchOf.l2, impl_watchOf.s2]
      rw [if_pos (by omega), if_pos (by omega), if_pos (by omega), rdOf_nat, w64n (by omega), move_f W hk hL (by omega), Option.bind_some]
      by_cases hb : L.getD i false = true
      · rw [if_pos hb]
        cases hm : firstM r G L i with
        | none =>
          have hg : ¬ goodW r G L i = true := by unfold goodW; rw [hm]; simp
          rw [Option.getD_none, if_pos (by omega), if_pos (by omega), if_pos (by omega), Int.toNat_natCast, swp_bad hb hg, ih (i + 1) n _ _ (by simpa using hL) (by omega) (by omega) (by omega)]
        | some y =>
          have hy := find_nonneg W.t hm
          have hg : goodW r G L i = true := by unfold goodW; rw [hm]; rfl
          rw [Option.getD_some, if_neg (by omega), swp_good hb hg, ih (i + 1) n _ _ hL (by omega) (by omega) (by omega)]
      · rw [if_neg hb, swp_end _ _ _ _ _ hb, ih (i + 1) n _ _ hL (by omega) (by omega) (by omega)]

theorem watch_l1 {k : Nat} {p r : Int} {G : List Int} (W : Wt p r G) (hk : 2097152 ≤ k) : ∀ (n : Nat) (L : List Bool) (ch : Bool), L.length = allW G →
    impl_watchOf.l1 k n p r G (nextsW r G (allW G)) L ch = (fixO (goodW r G) n L ch).map fun L => ((p, r), G, nextsW r G (allW G), L)
  | 0, L, ch, hL => rfl
  | n + 1, L, ch, hL => by
    have hw := W.all
    simp only [impl_watchOf.l1, impl_watchOf.s1, fixO]
    cases ch with
    | false => simp
    | true =>
      simp only [if_true]
      have := watch_l2 (r1 := impl_watchOf.l1 k n) W hk (allW G) 0 k L false hL (by omega) (by omega) (by omega)
      rw [hL]
      refine Eq.trans this ?_
      rw [watch_l1 W hk n _ _ (by rw [swp_len]; exact hL)]

theorem watch_l0 {k : Nat} {p r : Int} {G : List Int} (W : Wt p r G) (hk : 2097152 ≤ k) : ∀ (d i n : Nat), allW G - i = d → i ≤ allW G → d < n →
    impl_watchOf.l0 k n p r G p r G (nextsW r G i) (inits G i) (allW G) i = (fixO (goodW r G) k (inits G (allW G)) true).map fun L => ((p, r), G, nextsW r G (allW G), L) := by
  have hw := W.all
  have hl := isT_len W.t
  have hwl := W.l
  have hc := W.c
  intro d
  induction d with
  | zero =>
    intro i n hd hi hn
    obtain rfl : i = allW G := by omega
    cases n with
    | zero => omega
    | succ n =>
      simp only [impl_watchOf.l0, impl_watchOf.s0]
      rw [if_neg (by omega), watch_l1 W hk k _ _ (inits_len G _)]
  | succ d ih =>
    intro i n hd hi hn
    cases n with
    | zero => omega
    | succ n =>
      have m1 := Int.emod_nonneg (i : Int) (show (G.length : Int) ≠ 0 by omega)
      have m2 := Int.emod_lt_of_pos (i : Int) (show 0 < (G.length : Int) by omega)
      have hol := ofN_len G ((i : Int) / (G.length : Int))
      have h0 : (0 : Int) ≤ (i : Int) := by omega
      have d1 := Int.ediv_nonneg h0 (show 0 ≤ (G.length : Int) by omega)
      have d2 := div_lt' (show 1 ≤ (G.length : Int) by omega) (show (i : Int) < cnt G * (G.length : Int) by omega)
      simp only [impl_watchOf.l0, impl_watchOf.s0]
      have ht : Int.tdiv (i : Int) p = (i : Int) / (G.length : Int) := by rw [Int.tdiv_eq_ediv_of_nonneg h0, hwl]
      have hm : Int.tmod (i : Int) p = (i : Int) % (G.length : Int) := by rw [Int.tmod_eq_emod_of_nonneg h0, hwl]
      rw [if_pos (by omega), if_neg (by omega), moves_f W hk h0 (by omega), Option.bind_some, if_pos (by rw [nextsW_len]; omega), if_neg (by omega), ht, hm, w64 (by omega) (by omega), numbered_f hk W.t d1 (by omega), Option.bind_some, if_pos m1, if_pos (by omega), if_pos m1, if_pos m2, if_pos (by rw [inits_len]; omega), w64n (by omega), ← nextsW_succ]
      rw [show (decide (rd (ofN G ((i : Int) / (G.length : Int))) ((i : Int) % (G.length : Int)) = rd G ((i : Int) % (G.length : Int)))) = initW G i from rfl, ← inits_succ]
      exact ih (i + 1) n (by omega) (by omega) (by omega)

theorem watchOf_f {k : Nat} {p r : Int} {G : List Int} (W : Wt p r G) (hk : 2097152 ≤ k) : impl_watchOf.f k p r G = some ((p, r), G, nextsW r G (allW G), safe r G) := by
  have hw := W.all
  have hwl := W.l
  unfold impl_watchOf.f impl_watchOf.g
  rw [states_f hk W.t, Option.bind_some, w64 (by rw [← hwl]; omega) (by rw [← hwl]; omega), ← hwl, ← hw.1, hwl]
  have := watch_l0 W hk (allW G) 0 k (by omega) (by omega) (by omega)
  rw [(safe_fix W (k := k) (by omega)).1] at this
  exact this

noncomputable def watchedR (p r : Int) (G : List Int) : Option ((Int × Int) × List Int × List (List Int) × List Bool) × Int := if codeW p r G = 0 then (some ((p, r), G, nextsW r G (allW G), safe r G), 0) else (none, codeW p r G)

theorem watched_f {k : Nat} {p r : Int} {G : List Int} (hk : 2097152 ≤ k) (hl : G.length ≤ 1048576) : impl_watched.f k p r G = some (watchedR p r G) := by
  unfold impl_watched.f impl_bothCode.f watchedR
  obtain ⟨_, h1, h3⟩ := ground_ok p r
  rw [h1, Option.bind_some]
  by_cases hg : isGr p r = true
  · have hp := h3 hg
    rw [if_pos hg, isTasks_f hk hl, Option.bind_some]
    by_cases ht : isT G = true
    · rw [ht, if_neg (by simp), if_pos rfl, many_f, Option.bind_some]
      by_cases hn : (G.length : Int) = p
      · rw [if_neg (by simpa using hn), Option.bind_some, if_pos rfl, states_f hk ht, Option.bind_some]
        have hb := size_bnd ht hp.1 (by omega)
        rw [w64 (by omega) (by omega)]
        by_cases hs : 20000 < p * cnt G
        · have e : codeW p r G = 3 := by unfold codeW; rw [if_pos hg, if_pos ht, if_pos hn, if_pos hs]
          rw [e, if_pos hs, if_neg (by omega)]
        · have e : codeW p r G = 0 := by unfold codeW; rw [if_pos hg, if_pos ht, if_pos hn, if_neg hs]
          rw [e, if_neg hs, if_pos rfl, watchOf_f ⟨hg, ht, hn, by omega⟩ hk]
          rfl
      · have e : codeW p r G = 2 := by unfold codeW; rw [if_pos hg, if_pos ht, if_neg hn]
        rw [e, if_pos (by simpa using hn), if_neg (by omega)]
        rfl
    · have e : codeW p r G = 1 := by unfold codeW; rw [if_pos hg, if_neg ht]
      rw [e, if_pos (by simpa using ht), if_neg (by omega)]
      rfl
  · have e : codeW p r G = 1 := by unfold codeW; rw [if_neg hg]
    rw [e, if_neg hg, if_neg (by omega)]
    rfl

end Go.Proofs.Ytcbhhbkghbnljaa.Vf
