/- Tasks on channels: what lasts. -/
import Derived.Test.YtcbhhbkghbnljaaQ08
import Derived.Test.YtcbhhbkghbnljaaQFix
set_option linter.unusedVariables false
set_option linter.unusedSimpArgs false
namespace Go.Proofs.Ytcbhhbkghbnljaa.Vf
open Go Go.V Go.RowKit

theorem own8_f {l : List Int} (hl : l.length ≤ 1048576) : spec_l01Own.f l = some l := by
  unfold spec_l01Own.f
  rw [if_pos (by omega), List.nil_append]

/-- The least set that is open and leads to one that is left. -/
def leastO (L : List Bool) (os : List (Int × Int)) : Option (Int × Int) := os.find? fun o => L.getD o.2.toNat false
def leastR (o : Option (Int × Int)) : Int × Int × Bool := match o with | some o => (o.1, o.2, true) | none => (0, 0, false)

theorem opE_bnd {G S : List Int} {x : Nat} {o : Int × Int} (h : isT G = true) (hs : Stt G S) (e : opE G S x = some o) : o.1 = (x : Int) ∧ 0 ≤ o.2 ∧ o.2 < cnt G ∧ ofN G o.2 ∈ (stepS G S x) ∧ stepS G S x = some (ofN G o.2) := by
  unfold opE at e
  obtain ⟨T, hT, rfl⟩ := Option.map_eq_some_iff.1 e
  have b0 := stepS_st (isT_gp h) hs hT
  obtain ⟨b1, b2⟩ := num_bnd (isT_gp h) b0
  have b3 := ofN_num (isT_gp h) b0
  exact ⟨rfl, b1, b2, by rw [b3, hT]; rfl, by rw [b3]; exact hT⟩

theorem opns_bnd {G S : List Int} {m : Int} (h : isT G = true) (hs : Stt G S) : ∀ o ∈ opns G S m, 0 ≤ o.2 ∧ o.2 < cnt G := by
  intro o ho
  obtain ⟨x, _, he⟩ := List.mem_filterMap.1 ho
  have := opE_bnd h hs he
  exact ⟨this.2.1, this.2.2.1⟩

theorem opns_len (G S : List Int) (m : Int) : (opns G S m).length ≤ 2 ^ G.length := by
  unfold opns setsN setsF
  refine Nat.le_trans (List.length_filterMap_le _ _) (Nat.le_trans (List.length_filter_le _ _) ?_)
  simp

theorem first_loop {k : Nat} {G S : List Int} {L : List Bool} {xs : List Nat} (hk : 2097152 ≤ k) (h : isT G = true) (hs : Stt G S) (hL : (L.length : Int) = cnt G) (hx : ∀ x ∈ xs, x < 256) (hxl : xs.length ≤ 1000) : ∀ (d i n : Nat), xs.length - i = d → i ≤ xs.length → d < n →
    spec_l08First.l0 k n (xs.map fun x : Nat => (x : Int)) L S G i = some (leastR (leastO L ((xs.drop i).filterMap (opE G S)))) := by
  intro d
  induction d with
  | zero =>
    intro i n hd hi hn
    cases n with
    | zero => omega
    | succ n =>
      simp only [spec_l08First.l0, spec_l08First.s0]
      rw [if_neg (by simp; omega), List.drop_eq_nil_of_le (by omega)]
      rfl
  | succ d ih =>
    intro i n hd hi hn
    cases n with
    | zero => omega
    | succ n =>
      have hlen : (xs.map fun x : Nat => (x : Int)).length = xs.length := by simp
      have hr : rd (xs.map fun x : Nat => (x : Int)) (i : Int) = ((xs[i]'(by omega) : Nat) : Int) := by
        rw [rd_lt (by omega)]; simp
      have hxi := hx (xs[i]'(by omega)) (List.getElem_mem _)
      simp only [spec_l08First.l0, spec_l08First.s0]
      rw [hlen, hr, if_pos (by omega), if_pos (by omega), if_pos (by omega), l08Step_f hk hxi h hs, Option.bind_some, w64n (by omega), List.drop_eq_getElem_cons (show i < xs.length by omega), List.filterMap_cons]
      cases hst : stepS G S (xs[i]'(by omega)) with
      | none =>
        have : opE G S (xs[i]'(by omega)) = none := by simp [opE, hst]
        rw [this]
        simp only [stepR, Bool.false_eq_true, if_false]
        exact ih (i + 1) n (by omega) (by omega) (by omega)
      | some T =>
        have b0 := stepS_st (isT_gp h) hs hst
        obtain ⟨b1, b2⟩ := num_bnd (isT_gp h) b0
        have : opE G S (xs[i]'(by omega)) = some (((xs[i]'(by omega) : Nat) : Int), num G T) := by simp [opE, hst]
        rw [this]
        simp only [stepR, if_true, List.nil_append]
        rw [l02Number_f hk h b0, Option.bind_some, if_pos b1, if_pos (by omega)]
        unfold leastO
        simp only [List.find?_cons]
        cases hb : L.getD (num G T).toNat false with
        | true =>
          rw [if_pos (show rdOf false L (num G T) = true from hb), if_pos (by omega), if_pos (by omega)]
          rfl
        | false =>
          rw [if_neg (show ¬ rdOf false L (num G T) = true from by rw [show rdOf false L (num G T) = false from hb]; simp)]
          exact ih (i + 1) n (by omega) (by omega) (by omega)

theorem setsN_lt {G : List Int} {m : Int} (hl : G.length ≤ 8) : ∀ x ∈ setsN G m, x < 256 := by
  intro x hx
  have := setsF_mem hx
  have := pow_le8 hl
  omega

theorem setsN_len {G : List Int} {m : Int} (hl : G.length ≤ 8) : (setsN G m).length ≤ 256 := by
  unfold setsN setsF
  have := pow_le8 hl
  refine Nat.le_trans (List.length_filter_le _ _) ?_
  simp; omega

theorem first_f {k : Nat} {G S : List Int} {L : List Bool} {m : Int} (hk : 2097152 ≤ k) (h : isT G = true) (hs : Stt G S) (hL : (L.length : Int) = cnt G) :
    spec_l08First.f k G ((setsN G m).map fun x : Nat => (x : Int)) L S = some (leastR (leastO L (opns G S m))) := by
  unfold spec_l08First.f spec_l08First.g
  have hl := isT_len h
  have h1 := setsN_len (G := G) (m := m) hl.2
  exact first_loop (k := k) hk h hs hL (setsN_lt hl.2) (by omega) (setsN G m).length 0 k (by omega) (by omega) (by omega)

theorem least_loop {k : Nat} {O : List (List (Int × Int))} {L : List Bool} {os : List (Int × Int)} {a b : Int} (hb : ∀ o ∈ os, 0 ≤ o.2 ∧ o.2 < L.length) (hl : os.length ≤ 1000) : ∀ (d i n : Nat), os.length - i = d → i ≤ os.length → d < n →
    impl_setGraph_least.l0 k n (O, L) a b os os.length i = some (leastR (leastO L (os.drop i))) := by
  intro d
  induction d with
  | zero =>
    intro i n hd hi hn
    cases n with
    | zero => omega
    | succ n =>
      simp only [impl_setGraph_least.l0, impl_setGraph_least.s0]
      rw [if_neg (by omega), List.drop_eq_nil_of_le (by omega)]
      rfl
  | succ d ih =>
    intro i n hd hi hn
    cases n with
    | zero => omega
    | succ n =>
      have hi' : i < os.length := by omega
      have hr : rdOf ((0, 0) : Int × Int) os (i : Int) = os[i] := rdOf_lt hi'
      obtain ⟨b1, b2⟩ := hb os[i] (List.getElem_mem _)
      simp only [impl_setGraph_least.l0, impl_setGraph_least.s0]
      rw [hr, if_pos (by omega), if_pos (by omega), if_pos (by omega), if_pos b1, if_pos b2, w64n (by omega), List.drop_eq_getElem_cons hi']
      unfold leastO
      simp only [List.find?_cons]
      cases hy : L.getD os[i].2.toNat false with
      | true => rw [if_pos (show rdOf false L os[i].2 = true from hy)]; rfl
      | false =>
        rw [if_neg (show ¬ rdOf false L os[i].2 = true from by rw [show rdOf false L os[i].2 = false from hy]; simp)]
        exact ih (i + 1) n (by omega) (by omega) (by omega)

/-- All that is open, state by state. -/
def opsA (G : List Int) (m : Int) (n : Nat) : List (List (Int × Int)) := (List.range n).map fun i : Nat => opns G (ofN G (i : Int)) m
theorem opsA_len (G : List Int) (m : Int) (n : Nat) : (opsA G m n).length = n := by simp [opsA]
theorem opsA_succ (G : List Int) (m : Int) (n : Nat) : opsA G m (n + 1) = opsA G m n ++ [opns G (ofN G (n : Int)) m] := by simp [opsA, List.range_succ]
theorem rdOf_opsA {G : List Int} {m : Int} {n i : Nat} (h : i < n) : rdOf ([] : List (Int × Int)) (opsA G m n) (i : Int) = opns G (ofN G (i : Int)) m := by
  rw [rdOf_lt (by rw [opsA_len]; exact h)]
  simp [opsA]

theorem least_f {k : Nat} {G : List Int} {L : List Bool} {m : Int} {i : Nat} (hk : 2097152 ≤ k) (h : isT G = true) (hL : (L.length : Int) = cnt G) (hi : i < L.length) :
    impl_setGraph_least.f k (opsA G m L.length, L) i = some (leastR (leastO L (opns G (ofN G (i : Int)) m))) := by
  unfold impl_setGraph_least.f impl_setGraph_least.g
  have hl := isT_len h
  have h1 := opns_len G (ofN G (i : Int)) m
  have hp := pow_le8 hl.2
  simp only [opsA_len, rdOf_opsA hi]
  rw [if_pos (by omega), if_pos (by omega)]
  exact least_loop (k := k) (fun o ho => by have := opns_bnd h (ofN_st _ (isT_gp h)) o ho; omega) (by omega) (opns G (ofN G (i : Int)) m).length 0 k (by omega) (by omega) (by omega)

/-! ### What lasts -/

def goodS (G : List Int) (m : Int) (L : List Bool) (i : Nat) : Bool := (leastO L (opns G (ofN G (i : Int)) m)).isSome
def lastS (G : List Int) (m : Int) : List Bool := (fixO (goodS G m) 4003 (List.replicate (cnt G).toNat true) true).getD []

theorem lastS_fix {G : List Int} {m : Int} (h : isT G = true) (hc : cnt G ≤ 4000) {k : Nat} (hk : 4003 ≤ k) : fixO (goodS G m) k (List.replicate (cnt G).toNat true) true = some (lastS G m) ∧ ((lastS G m).length : Int) = cnt G := by
  have hp := cnt_pos (isT_gp h)
  obtain ⟨L', h1, h2⟩ := fix_some (goodS G m) 4003 (List.replicate (cnt G).toNat true) true (by have := trues_le (List.replicate (cnt G).toNat true); simp at this; omega)
  have e : lastS G m = L' := by
    unfold lastS
    rw [h1]; rfl
  rw [e]
  refine ⟨fix_mono _ _ _ _ _ _ hk h1, ?_⟩
  rw [h2]; simp; omega

theorem leastR_ok (o : Option (Int × Int)) : (leastR o).2.2 = o.isSome := by cases o <;> rfl

theorem last8_l2 {k : Nat} {G : List Int} {m : Int} {M : Nat} (hk : 2097152 ≤ k) (h : isT G = true) (hm : (M : Int) = cnt G) {r1 : (List Int) → (List Int) → (List Bool) → Bool → Option ((List Bool))} :
    ∀ (d i n : Nat) (L : List Bool) (ch : Bool), L.length = M → M - i = d → i ≤ M → d < n →
      spec_l08Lasting.l2 k r1 n G ((setsN G m).map fun x : Nat => (x : Int)) L ch M i = r1 G ((setsN G m).map fun x : Nat => (x : Int)) (swp (goodS G m) d i L ch).1 (swp (goodS G m) d i L ch).2 := by
  have hc := cnt_small (isT_gp h) (isT_len h).2
  intro d
  induction d with
  | zero =>
    intro i n L ch hL hd hi hn
    cases n with
    | zero => omega
    | succ n =>
      simp only [spec_l08Lasting.l2, spec_l08Lasting.s2]
      rw [if_neg (by omega)]
      rfl
  | succ d ih =>
    intro i n L ch hL hd hi hn
    cases n with
    | zero => omega
    | succ n =>
      simp only [spec_l08Lasting.l2, spec_l08Lasting.s2]
      rw [if_pos (by omega), if_pos (by omega), if_pos (by omega), rdOf_nat, w64n (by omega), l02Of_f hk h (by omega) (by omega), Option.bind_some, first_f hk h (ofN_st _ (isT_gp h)) (by omega), Option.bind_some, leastR_ok, show (leastO L (opns G (ofN G (i : Int)) m)).isSome = goodS G m L i from rfl]
      by_cases hb : L.getD i false = true
      · rw [if_pos hb]
        by_cases hg : goodS G m L i = true
        · rw [if_pos hg, swp_good hb hg, ih (i + 1) n _ _ hL (by omega) (by omega) (by omega)]
        · rw [if_neg hg, if_pos (by omega), if_pos (by omega), Int.toNat_natCast, swp_bad hb hg, ih (i + 1) n _ _ (by simpa using hL) (by omega) (by omega) (by omega)]
      · rw [if_neg hb, swp_end _ _ _ _ _ hb, ih (i + 1) n _ _ hL (by omega) (by omega) (by omega)]

theorem last8_l1 {k : Nat} {G : List Int} {m : Int} {M : Nat} (hk : 2097152 ≤ k) (h : isT G = true) (hm : (M : Int) = cnt G) (hm2 : M ≤ 100000) : ∀ (n : Nat) (L : List Bool) (ch : Bool), L.length = M →
    spec_l08Lasting.l1 k n G ((setsN G m).map fun x : Nat => (x : Int)) L ch = fixO (goodS G m) n L ch
  | 0, L, ch, hL => rfl
  | n + 1, L, ch, hL => by
    simp only [spec_l08Lasting.l1, spec_l08Lasting.s1, fixO]
    cases ch with
    | false => simp
    | true =>
      simp only [if_true]
      have := last8_l2 (m := m) (r1 := spec_l08Lasting.l1 k n) hk h hm M 0 k L false hL (by omega) (by omega) (by omega)
      rw [show (L.length : Int) = (M : Int) by omega]
      refine Eq.trans this ?_
      rw [last8_l1 hk h hm hm2 n _ _ (by rw [swp_len]; exact hL), hL]

theorem last8_l0 {k : Nat} {G : List Int} {m : Int} {M : Nat} (hk : 2097152 ≤ k) (h : isT G = true) (hm : (M : Int) = cnt G) (hm2 : M ≤ 100000) : ∀ (d i n : Nat), M - i = d → i ≤ M → d < n →
    spec_l08Lasting.l0 k n G ((setsN G m).map fun x : Nat => (x : Int)) (List.replicate i true ++ List.replicate (M - i) false) M i = fixO (goodS G m) k (List.replicate M true) true := by
  intro d
  induction d with
  | zero =>
    intro i n hd hi hn
    obtain rfl : i = M := by omega
    cases n with
    | zero => omega
    | succ n =>
      simp only [spec_l08Lasting.l0, spec_l08Lasting.s0]
      rw [if_neg (by omega), Nat.sub_self, List.replicate_zero, List.append_nil, last8_l1 hk h hm hm2 k _ _ (by simp)]
  | succ d ih =>
    intro i n hd hi hn
    cases n with
    | zero => omega
    | succ n =>
      simp only [spec_l08Lasting.l0, spec_l08Lasting.s0]
      rw [if_pos (by omega), if_pos (by omega), if_pos (by simp; omega), Int.toNat_natCast, fill_set M i (by omega), w64n (by omega)]
      exact ih (i + 1) n (by omega) (by omega) (by omega)

theorem l08Lasting_f {k : Nat} {G : List Int} {m : Int} (hk : 2097152 ≤ k) (h : isT G = true) (hc : cnt G ≤ 4000) : spec_l08Lasting.f k G m = some (lastS G m) := by
  have hp := cnt_pos (isT_gp h)
  unfold spec_l08Lasting.f spec_l08Lasting.g
  rw [sets_f hk (isT_len h).2, Option.bind_some, l02Count_f hk h, Option.bind_some, if_pos (by omega), if_pos (by omega), if_pos (by omega)]
  obtain ⟨h1, h2⟩ := lastS_fix (m := m) h hc (k := k) (by omega)
  have := last8_l0 (m := m) (M := (cnt G).toNat) hk h (by omega) (by omega) (cnt G).toNat 0 k (by omega) (by omega) (by omega)
  rw [h1, show (((cnt G).toNat : Nat) : Int) = cnt G by omega] at this
  rw [List.length_replicate, show (((cnt G).toNat : Nat) : Int) = cnt G by omega]
  exact this

/-! ### The program's -/

theorem sg_l2 {k : Nat} {G : List Int} {m : Int} {M : Nat} (hk : 2097152 ≤ k) (h : isT G = true) (hm : (M : Int) = cnt G) {r1 : (List (List (Int × Int))) → (List Bool) → Bool → Option (((List (List (Int × Int))) × (List Bool)))} :
    ∀ (d i n : Nat) (L : List Bool) (ch : Bool), L.length = M → M - i = d → i ≤ M → d < n →
      impl_setGraphOf.l2 k r1 n (opsA G m M) L ch M i = r1 (opsA G m M) (swp (goodS G m) d i L ch).1 (swp (goodS G m) d i L ch).2 := by
  have hc := cnt_small (isT_gp h) (isT_len h).2
  intro d
  induction d with
  | zero =>
    intro i n L ch hL hd hi hn
    cases n with
    | zero => omega
    | succ n =>
      simp only [impl_setGraphOf.l2, impl_setGraphOf.s2]
      rw [if_neg (by omega)]
      rfl
  | succ d ih =>
    intro i n L ch hL hd hi hn
    cases n with
    | zero => omega
    | succ n =>
      have hle := least_f (L := L) (m := m) (i := i) hk h (by omega) (by omega)
      rw [hL] at hle
      simp only [impl_setGraphOf.l2, impl_setGraphOf.s2]
      rw [if_pos (by omega), if_pos (by omega), if_pos (by omega), hle, Option.bind_some, rdOf_nat, w64n (by omega), leastR_ok, show (leastO L (opns G (ofN G (i : Int)) m)).isSome = goodS G m L i from rfl]
      by_cases hb : L.getD i false = true
      · rw [if_pos hb]
        by_cases hg : goodS G m L i = true
        · rw [if_pos hg, swp_good hb hg, ih (i + 1) n _ _ hL (by omega) (by omega) (by omega)]
        · rw [if_neg hg, if_pos (by omega), if_pos (by omega), Int.toNat_natCast, swp_bad hb hg, ih (i + 1) n _ _ (by simpa using hL) (by omega) (by omega) (by omega)]
      · rw [if_neg hb, swp_end _ _ _ _ _ hb, ih (i + 1) n _ _ hL (by omega) (by omega) (by omega)]

theorem sg_l1 {k : Nat} {G : List Int} {m : Int} {M : Nat} (hk : 2097152 ≤ k) (h : isT G = true) (hm : (M : Int) = cnt G) (hm2 : M ≤ 100000) : ∀ (n : Nat) (L : List Bool) (ch : Bool), L.length = M →
    impl_setGraphOf.l1 k n (opsA G m M) L ch = (fixO (goodS G m) n L ch).map fun L => (opsA G m M, L)
  | 0, L, ch, hL => rfl
  | n + 1, L, ch, hL => by
    simp only [impl_setGraphOf.l1, impl_setGraphOf.s1, fixO]
    cases ch with
    | false => simp
    | true =>
      simp only [if_true]
      have := sg_l2 (m := m) (r1 := impl_setGraphOf.l1 k n) hk h hm M 0 k L false hL (by omega) (by omega) (by omega)
      rw [show (L.length : Int) = (M : Int) by omega]
      refine Eq.trans this ?_
      rw [sg_l1 hk h hm hm2 n _ _ (by rw [swp_len]; exact hL), hL]

theorem sg_l0 {k : Nat} {G : List Int} {m : Int} {M : Nat} (hk : 2097152 ≤ k) (h : isT G = true) (hm : (M : Int) = cnt G) (hm2 : M ≤ 100000) : ∀ (d i n : Nat), M - i = d → i ≤ M → d < n →
    impl_setGraphOf.l0 k n m G (opsA G m i) (List.replicate i true) M i = (fixO (goodS G m) k (List.replicate M true) true).map fun L => (opsA G m M, L) := by
  intro d
  induction d with
  | zero =>
    intro i n hd hi hn
    obtain rfl : i = M := by omega
    cases n with
    | zero => omega
    | succ n =>
      simp only [impl_setGraphOf.l0, impl_setGraphOf.s0]
      rw [if_neg (by omega), sg_l1 hk h hm hm2 k _ _ (by simp)]
  | succ d ih =>
    intro i n hd hi hn
    cases n with
    | zero => omega
    | succ n =>
      simp only [impl_setGraphOf.l0, impl_setGraphOf.s0]
      rw [if_pos (by omega), numbered_f hk h (by omega) (by omega), Option.bind_some, openings_f hk h (ofN_st _ (isT_gp h)), Option.bind_some, if_pos (by rw [opsA_len]; omega), if_pos (by simp; omega), w64n (by omega), ← opsA_succ, ← List.replicate_succ']
      exact ih (i + 1) n (by omega) (by omega) (by omega)

theorem setGraphOf_f {k : Nat} {G : List Int} {m : Int} (hk : 2097152 ≤ k) (h : isT G = true) (hc : cnt G ≤ 4000) : impl_setGraphOf.f k G m = some (opsA G m (lastS G m).length, lastS G m) := by
  have hp := cnt_pos (isT_gp h)
  unfold impl_setGraphOf.f impl_setGraphOf.g
  rw [states_f hk h, Option.bind_some]
  obtain ⟨h1, h2⟩ := lastS_fix (m := m) h hc (k := k) (by omega)
  have := sg_l0 (m := m) (M := (cnt G).toNat) hk h (by omega) (by omega) (cnt G).toNat 0 k (by omega) (by omega) (by omega)
  rw [h1, show (((cnt G).toNat : Nat) : Int) = cnt G by omega] at this
  refine Eq.trans this ?_
  rw [Option.map_some, show (cnt G).toNat = (lastS G m).length by omega]

end Go.Proofs.Ytcbhhbkghbnljaa.Vf
