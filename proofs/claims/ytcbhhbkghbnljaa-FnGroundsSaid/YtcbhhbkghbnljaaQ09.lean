/- A ground and tasks: what the functions of program and reference give for states with a place. -/
import Derived.Test.YtcbhhbkghbnljaaQ02a
set_option linter.unusedVariables false
set_option linter.unusedSimpArgs false
namespace Go.Proofs.Ytcbhhbkghbnljaa.Vf
open Go Go.V Go.RowKit

/-! ### Grounds and roads -/

def roadI (a b : Int) : Int := wrap64 ((wrap64 (Int.tdiv (wrap64 ((maxV a b) * (wrap64 ((maxV a b) - 1)))) 2)) + (minV a b))
noncomputable def roadV (a b : Int) : Int := shlV .i64 1 (roadI a b)

theorem six {a : Int} (h0 : 0 ≤ a) (h1 : a < 6) : a = 0 ∨ a = 1 ∨ a = 2 ∨ a = 3 ∨ a = 4 ∨ a = 5 := by omega

theorem roadI_ok {a b : Int} (h0 : 0 ≤ a) (h1 : a < 6) (h2 : 0 ≤ b) (h3 : b < 6) : ¬ roadI a b < 0 ∧ IntKind.wrap .u64 (roadI a b) = roadI a b := by
  rcases six h0 h1 with rfl | rfl | rfl | rfl | rfl | rfl <;> rcases six h2 h3 with rfl | rfl | rfl | rfl | rfl | rfl <;> decide +kernel

theorem road_ok {a b : Int} (h0 : 0 ≤ a) (h1 : a < 6) (h2 : 0 ≤ b) (h3 : b < 6) : spec_l09Road.f a b = some (roadV a b) ∧ impl_road.f a b = some (roadV a b) := by
  obtain ⟨e1, e2⟩ := roadI_ok h0 h1 h2 h3
  refine ⟨?_, if_neg e1⟩
  show (if IntKind.wrap .u64 (roadI a b) < 0 then none else some (shlV .i64 1 (IntKind.wrap .u64 (roadI a b)))) = some (roadV a b)
  rw [e2, if_neg e1]; rfl

noncomputable def nearV (r a b : Int) : Bool := if a = b then true else !decide (andV .i64 r (roadV a b) = 0)

theorem near_ok {p r a b : Int} (h0 : 0 ≤ a) (h1 : a < 6) (h2 : 0 ≤ b) (h3 : b < 6) : spec_l09Near.f p r a b = some (nearV r a b) ∧ impl_Ground_isNear.f p r a b = some (nearV r a b) := by
  obtain ⟨e1, e2⟩ := road_ok h0 h1 h2 h3
  unfold spec_l09Near.f impl_Ground_isNear.f impl_Ground_joins.f nearV
  by_cases h : a = b
  · rw [if_pos h, if_pos h, if_pos h]; exact ⟨rfl, rfl⟩
  · simp only [if_neg h]; rw [e1, e2]; exact ⟨rfl, rfl⟩

def grI (p : Int) : Int := wrap64 (Int.tdiv (wrap64 (p * (wrap64 (p - 1)))) 2)
noncomputable def isGr (p r : Int) : Bool := decide (1 ≤ p ∧ p ≤ 6) && decide (0 ≤ r ∧ r ≤ wrap64 ((shlV .i64 1 (grI p)) - 1))

theorem seven {a : Int} (h0 : 1 ≤ a) (h1 : a ≤ 6) : a = 1 ∨ a = 2 ∨ a = 3 ∨ a = 4 ∨ a = 5 ∨ a = 6 := by omega

theorem ground_ok (p r : Int) : spec_l09Is.f p r = some (isGr p r) ∧ impl_IsGround.f p r = some (isGr p r) ∧ (isGr p r = true → 1 ≤ p ∧ p ≤ 6) := by
  unfold isGr spec_l09Is.f impl_IsGround.f
  simp only [l01In_f, within_f, Option.bind_some]
  by_cases h : 1 ≤ p ∧ p ≤ 6
  · have e : ¬ grI p < 0 ∧ IntKind.wrap .u64 (grI p) = grI p := by
      rcases seven h.1 h.2 with rfl | rfl | rfl | rfl | rfl | rfl <;> decide +kernel
    obtain ⟨e1, e2⟩ := e
    rw [decide_eq_true h, if_pos rfl, if_pos rfl, Bool.true_and]
    refine ⟨?_, if_neg e1, fun _ => h⟩
    show (if IntKind.wrap .u64 (grI p) < 0 then none else some (decide (0 ≤ r ∧ r ≤ wrap64 ((shlV .i64 1 (IntKind.wrap .u64 (grI p))) - 1)))) = _
    rw [e2, if_neg e1]
  · rw [decide_eq_false h]
    exact ⟨rfl, rfl, fun h => by cases h⟩

/-- The code. -/
noncomputable def codeW (p r : Int) (G : List Int) : Int := if isGr p r = true then (if isT G = true then (if (G.length : Int) = p then (if 20000 < p * cnt G then 3 else 0) else 2) else 1) else 1

structure Wt (p r : Int) (G : List Int) : Prop where
  g : isGr p r = true
  t : isT G = true
  l : (G.length : Int) = p
  s : p * cnt G ≤ 20000

theorem codeW_zero {p r : Int} {G : List Int} (h : codeW p r G = 0) : Wt p r G := by
  unfold codeW at h
  by_cases h1 : isGr p r = true
  · rw [if_pos h1] at h
    by_cases h2 : isT G = true
    · rw [if_pos h2] at h
      by_cases h3 : (G.length : Int) = p
      · rw [if_pos h3] at h
        by_cases h4 : 20000 < p * cnt G
        · rw [if_pos h4] at h; cases h
        · exact ⟨h1, h2, h3, by omega⟩
      · rw [if_neg h3] at h; cases h
    · rw [if_neg h2] at h; cases h
  · rw [if_neg h1] at h; cases h

theorem Wt.p1 {p r : Int} {G : List Int} (W : Wt p r G) : 1 ≤ p ∧ p ≤ 6 := (ground_ok p r).2.2 W.g
theorem Wt.c {p r : Int} {G : List Int} (W : Wt p r G) : 1 ≤ cnt G ∧ cnt G ≤ 20000 := by
  have h1 := cnt_pos (isT_gp W.t)
  have h2 := W.s
  have h3 := W.p1
  have := Int.mul_le_mul_of_nonneg_right h3.1 (show 0 ≤ cnt G by omega)
  omega

theorem size_loop {k : Nat} {G : List Int} (hG : Gp G) (hl : G.length ≤ 8) : ∀ (d i n : Nat) (a : Int), G.length - i = d → i ≤ G.length → d < n → 1 ≤ a → a * cnt (G.drop i) ≤ 65536000000000 →
    spec_l09Size.l0 k n G a G.length i = some (a * cnt (G.drop i)) := by
  intro d
  induction d with
  | zero =>
    intro i n a hd hi hn ha hb
    obtain rfl : i = G.length := by omega
    cases n with
    | zero => omega
    | succ n =>
      simp only [spec_l09Size.l0, spec_l09Size.s0]
      rw [if_neg (by omega), List.drop_length]
      simp [cnt]
  | succ d ih =>
    intro i n a hd hi hn ha hb
    cases n with
    | zero => omega
    | succ n =>
      simp only [spec_l09Size.l0, spec_l09Size.s0]
      rw [drop_cons (by omega)] at hb ⊢
      simp only [cnt] at hb ⊢
      have hg := hG _ (rd_mem (l := G) (i := i) (by omega))
      have hc := cnt_pos (cnt_drop (i + 1) hG)
      obtain ⟨h1, h2⟩ := mul_bnd ha hg.1 hc hb
      rw [if_pos (by omega), if_pos (by omega), if_pos (by omega), w64 (by omega) (by omega), w64n (by omega), ih (i + 1) n _ (by omega) (by omega) (by omega) h1 (by rw [Int.mul_assoc]; exact hb), Int.mul_assoc]

theorem size_bnd {p : Int} {G : List Int} (h : isT G = true) (h1 : 1 ≤ p) (h2 : p ≤ 8) : 1 ≤ p * cnt G ∧ p * cnt G ≤ 65536000000000 := by
  have hc := cnt_small (isT_gp h) (isT_len h).2
  have hp := cnt_pos (isT_gp h)
  have a := Int.mul_le_mul_of_nonneg_right h1 (show 0 ≤ cnt G by omega)
  have b := Int.mul_le_mul_of_nonneg_right h2 (show 0 ≤ cnt G by omega)
  omega

theorem size_f {k : Nat} {p r : Int} {G : List Int} (hk : 2097152 ≤ k) (h : isT G = true) (h1 : 1 ≤ p) (h2 : p ≤ 8) : spec_l09Size.f k p r G = some (p * cnt G) := by
  unfold spec_l09Size.f spec_l09Size.g
  have := isT_len h
  have hb := size_bnd h h1 h2
  have := size_loop (k := k) (isT_gp h) (isT_len h).2 G.length 0 k p (by omega) (by omega) (by omega) h1 (by rw [List.drop_zero]; exact hb.2)
  exact this.trans (by rw [List.drop_zero])

/-! ### States with places -/

theorem l09State_loop {k : Nat} {G : List Int} {v q : Int} (hG : Gp G) (hl : G.length ≤ 8) (hv : 0 ≤ v) (hv2 : v ≤ 6553600000000) : ∀ (m n : Nat), m ≤ G.length → m < n →
    spec_l09State.l0 k n G q (ofA (G.drop m) v).2 (List.replicate m 0 ++ (ofA (G.drop m) v).1) ((m : Int) - 1) = some (ofN G v, q) := by
  intro m
  induction m with
  | zero =>
    intro n hm hn
    cases n with
    | zero => omega
    | succ n =>
      simp only [spec_l09State.l0, spec_l09State.s0]
      rw [if_neg (by omega), List.drop_zero]
      rfl
  | succ m ih =>
    intro n hm hn
    cases n with
    | zero => omega
    | succ n =>
      have hi : (((m + 1 : Nat) : Int) - 1) = (m : Int) := by omega
      have hg := hG _ (rd_mem (l := G) (i := m) (by omega))
      have hGd := cnt_drop (m + 1) hG
      have h1 := ofA_nonneg hGd hv
      have h2 := ofA_le hGd hv
      have hlen := ofA_len (G.drop (m + 1)) v
      rw [hi]
      simp only [spec_l09State.l0, spec_l09State.s0]
      rw [if_pos (by omega), if_pos (by omega), if_pos (by omega), if_neg (by omega), if_pos (by omega), if_pos (by simp; omega), if_pos (by omega), if_pos (by omega), if_neg (by omega)]
      have hd : ofA (G.drop m) v = (((ofA (G.drop (m + 1)) v).2 % rd G m + 1) :: (ofA (G.drop (m + 1)) v).1, (ofA (G.drop (m + 1)) v).2 / rd G m) := by
        rw [drop_cons (l := G) (i := m) (by omega)]; rfl
      have h3 := Int.emod_nonneg (ofA (G.drop (m + 1)) v).2 (show rd G m ≠ 0 by omega)
      have h4 := Int.emod_lt_of_pos (ofA (G.drop (m + 1)) v).2 (show 0 < rd G m by omega)
      have h5 := Int.ediv_nonneg h1 (show 0 ≤ rd G m by omega)
      have h6 := Int.ediv_le_self (rd G m) h1
      have := ih n (by omega) (by omega)
      rw [hd] at this
      rw [Int.tdiv_eq_ediv_of_nonneg h1, Int.tmod_eq_emod_of_nonneg h1, w64 (x := (ofA (G.drop (m + 1)) v).2 / rd G m) (by omega) (by omega), w64 (x := (ofA (G.drop (m + 1)) v).2 % rd G m + 1) (by omega) (by omega), w64 (x := (m : Int) - 1) (by omega) (by omega), Int.toNat_natCast, set_rep]
      exact this

theorem l09State_f {k : Nat} {G : List Int} {v : Int} (hk : 2097152 ≤ k) (h : isT G = true) (hv : 0 ≤ v) (hv2 : v ≤ 6553600000000) : spec_l09State.f k G v = some (ofN G (v / (G.length : Int)), v % (G.length : Int)) := by
  unfold spec_l09State.f spec_l09State.g
  have hl := isT_len h
  have h5 := Int.ediv_nonneg hv (show 0 ≤ (G.length : Int) by omega)
  have h6 := Int.ediv_le_self (G.length : Int) hv
  simp only [l01K_f, Option.bind_some]
  rw [if_neg (by omega), if_neg (by omega), if_pos (by omega), if_pos (by omega), if_pos (by omega), Int.toNat_natCast, Int.tdiv_eq_ediv_of_nonneg hv, Int.tmod_eq_emod_of_nonneg hv, w64 (x := v / (G.length : Int)) (by omega) (by omega), w64 (by omega) (by omega)]
  have := l09State_loop (k := k) (q := v % (G.length : Int)) (isT_gp h) hl.2 h5 (by omega) G.length k (by omega) (by omega)
  rw [List.drop_length] at this
  simpa [ofA] using this

theorem l09Number_loop {k : Nat} {G S : List Int} {t : Int} (hG : Gp G) (hl : 1 ≤ G.length ∧ G.length ≤ 8) (ht : 0 ≤ t) (ht2 : t < G.length) (hs : Stt G S) : ∀ (d i n : Nat) (a : Int), G.length - i = d → i ≤ G.length → d < n → 0 ≤ a → (a + 1) * cnt (G.drop i) ≤ 6553600000000 →
    spec_l09Number.l0 k n S t G a S.length i = some (numA a (G.drop i) (S.drop i) * (G.length : Int) + t) := by
  have hsl := hs.length
  intro d
  induction d with
  | zero =>
    intro i n a hd hi hn ha hb
    obtain rfl : i = G.length := by omega
    cases n with
    | zero => omega
    | succ n =>
      simp only [spec_l09Number.l0, spec_l09Number.s0]
      rw [List.drop_length] at hb ⊢
      simp only [cnt] at hb
      have hm : a * (G.length : Int) ≤ a * 8 := Int.mul_le_mul_of_nonneg_left (by omega) ha
      have hm0 : 0 ≤ a * (G.length : Int) := Int.mul_nonneg ha (by omega)
      rw [if_neg (by omega), l01K_f, Option.bind_some, w64 (x := a * (G.length : Int)) (by omega) (by omega), w64 (by omega) (by omega)]
      simp [numA]
  | succ d ih =>
    intro i n a hd hi hn ha hb
    cases n with
    | zero => omega
    | succ n =>
      simp only [spec_l09Number.l0, spec_l09Number.s0]
      rw [drop_cons (l := G) (by omega)] at hb ⊢
      rw [drop_cons (l := S) (by omega)]
      simp only [cnt, numA] at hb ⊢
      have hg := hG _ (rd_mem (l := G) (i := i) (by omega))
      have hc := cnt_pos (cnt_drop (i + 1) hG)
      obtain ⟨e1, e2⟩ := stt_at (i := i) hs (by omega)
      obtain ⟨q1, q2, q3, q4⟩ := num_next ha e1 e2 hc hb
      rw [if_pos (by omega), if_pos (by omega), if_pos (by omega), if_pos (by omega), if_pos (by omega), w64 (x := a * rd G i) (by omega) (by omega), w64 (x := a * rd G i + rd S i) (by omega) (by omega), w64 (by omega) (by omega), w64n (by omega),
        ih (i + 1) n _ (by omega) (by omega) (by omega) q3 q4]

theorem l09Number_f {k : Nat} {G S : List Int} {t : Int} (hk : 2097152 ≤ k) (h : isT G = true) (hs : Stt G S) (ht : 0 ≤ t) (ht2 : t < G.length) : spec_l09Number.f k G S t = some (num G S * (G.length : Int) + t) := by
  unfold spec_l09Number.f spec_l09Number.g
  have hc := cnt_small (isT_gp h) (isT_len h).2
  have hl := isT_len h
  have := l09Number_loop (k := k) (isT_gp h) hl ht ht2 hs G.length 0 k 0 (by omega) (by omega) (by omega) (by omega) (by rw [List.drop_zero]; omega)
  exact this

/-- Where a move leads. -/
def mvN (G S : List Int) (t : Int) : Option Int := (step G S t).map fun T => num G T * (G.length : Int) + t

theorem l09Move_loop {k : Nat} {G S : List Int} {c : Int} (hG : Gp G) (hl : G.length ≤ 8) (hs : Stt G S) : ∀ (d i n : Nat) (out : List Int), G.length - i = d → i ≤ G.length → d < n → out.length = i →
    spec_l09Move.l0 k n c G (out ++ S.drop i) S.length i = match stepA c i (G.drop i) (S.drop i) with | some T => spec_l09Number.f k G (out ++ T) c | none => some (-1) := by
  have hsl := hs.length
  intro d
  induction d with
  | zero =>
    intro i n out hd hi hn ho
    obtain rfl : i = G.length := by omega
    cases n with
    | zero => omega
    | succ n =>
      simp only [spec_l09Move.l0, spec_l09Move.s0]
      rw [if_neg (by omega), List.drop_length, List.drop_eq_nil_of_le (by omega)]
      simp [stepA]
  | succ d ih =>
    intro i n out hd hi hn ho
    cases n with
    | zero => omega
    | succ n =>
      have hg := hG _ (rd_mem (l := G) (i := i) (by omega))
      obtain ⟨e1, e2⟩ := stt_at (i := i) hs (by omega)
      have hlen : (out ++ S.drop i).length = S.length := by simp; omega
      have hset : ∀ x : Int, ((out ++ S.drop i).set i x) = (out ++ [x]) ++ S.drop (i + 1) := fun x => set_app out S i x ho (by omega)
      have hlen2 : ∀ x : Int, ((out ++ [x]) ++ S.drop (i + 1)).length = S.length := fun x => by rw [← hset x, List.length_set, hlen]
      have hset2 : ∀ x y : Int, ((out ++ [x]) ++ S.drop (i + 1)).set i y = (out ++ [y]) ++ S.drop (i + 1) := fun x y => by rw [← hset x, List.set_set, hset y]
      have hrd : ∀ x : Int, rd ((out ++ [x]) ++ S.drop (i + 1)) i = x := fun x => by
        rw [rd_nat, List.getD_eq_getElem?_getD, List.append_assoc, List.getElem?_append_right (by omega)]
        simp [ho]
      simp only [spec_l09Move.l0, spec_l09Move.s0]
      rw [rd_app out S i ho (by omega)]
      simp only [Int.toNat_natCast, hset, hset2, hlen, hlen2, hrd]
      conv => rhs; rw [drop_cons (l := G) (i := i) (by omega), drop_cons (l := S) (i := i) (by omega)]
      have w1 : wrap64 (rd S i - 1) = rd S i - 1 := w64 (by omega) (by omega)
      rw [if_pos (by omega), if_pos (by omega), if_pos (by omega), if_pos (by omega), if_pos (by omega), w1, w64n (by omega)]
      simp only [stepA]
      by_cases hc : (i : Int) = c
      · rw [if_pos hc, if_pos hc, if_pos (by omega), if_pos (by omega), if_pos (by omega), if_pos (by omega), if_pos (by omega), if_pos (by omega), if_neg (by omega), ih (i + 1) n _ (by omega) (by omega) (by omega) (by simp [ho])]
        rw [show ((i : Int) + 1) = ((i + 1 : Nat) : Int) by omega]
        cases stepA c ((i + 1 : Nat) : Int) (G.drop (i + 1)) (S.drop (i + 1)) <;> simp
      · rw [if_neg hc, if_neg hc, if_pos (by omega), if_pos (by omega)]
        by_cases h2 : rd S i < 2
        · rw [if_pos (by omega), if_pos h2]
        · rw [if_neg (by omega), if_neg h2, ih (i + 1) n _ (by omega) (by omega) (by omega) (by simp [ho])]
          rw [show ((i : Int) + 1) = ((i + 1 : Nat) : Int) by omega]
          cases stepA c ((i + 1 : Nat) : Int) (G.drop (i + 1)) (S.drop (i + 1)) <;> simp

theorem own9_f {l : List Int} (hl : l.length ≤ 1048576) : spec_l01Own.f l = some l := by
  unfold spec_l01Own.f
  rw [if_pos (by omega), List.nil_append]

theorem l09Move_f {k : Nat} {G S : List Int} {t : Int} (hk : 2097152 ≤ k) (h : isT G = true) (hs : Stt G S) (ht : 0 ≤ t) (ht2 : t < G.length) : spec_l09Move.f k G S t = some ((mvN G S t).getD (-1)) := by
  unfold spec_l09Move.f spec_l09Move.g mvN
  have hl := isT_len h
  have hsl := hs.length
  rw [own9_f (by omega), Option.bind_some]
  have := l09Move_loop (k := k) (c := t) (isT_gp h) hl.2 hs G.length 0 k [] (by omega) (by omega) (by omega) rfl
  refine Eq.trans this ?_
  rw [List.drop_zero, List.drop_zero]
  show (match step G S t with | some T => spec_l09Number.f k G ([] ++ T) t | none => some (-1)) = _
  cases hst : step G S t with
  | none => rfl
  | some T =>
    simp only [List.nil_append, Option.map_some, Option.getD_some]
    exact l09Number_f hk h (step_st (isT_gp h) hs hst) ht ht2

/-! ### Moves -/

/-- Where a choice of place leads from a state with a place. -/
noncomputable def mvO (r : Int) (G : List Int) (x : Int) (t : Int) : Option Int := if nearV r (x % (G.length : Int)) t = true then mvN G (ofN G (x / (G.length : Int))) t else none

noncomputable def mvF (r : Int) (G : List Int) (x : Int) (j d : Nat) : List Int := (List.range' j d).filterMap fun t : Nat => mvO r G x (t : Int)

noncomputable def mvs (r : Int) (G : List Int) (x : Int) : List Int := mvF r G x 0 G.length

theorem mvF_succ (r : Int) (G : List Int) (x : Int) (j d : Nat) : mvF r G x j (d + 1) = (match mvO r G x (j : Int) with | some y => y :: mvF r G x (j + 1) d | none => mvF r G x (j + 1) d) := by
  unfold mvF
  rw [List.range'_succ, List.filterMap_cons]
  cases mvO r G x (j : Int) <;> rfl

theorem mvN_bnd {G S : List Int} {t y : Int} (h : isT G = true) (hs : Stt G S) (ht : 0 ≤ t) (ht2 : t < G.length) (e : mvN G S t = some y) : 0 ≤ y ∧ y < cnt G * (G.length : Int) := by
  unfold mvN at e
  obtain ⟨T, hT, rfl⟩ := Option.map_eq_some_iff.1 e
  obtain ⟨b1, b2⟩ := num_bnd (isT_gp h) (step_st (isT_gp h) hs hT)
  have h1 : 0 ≤ num G T * (G.length : Int) := Int.mul_nonneg b1 (by omega)
  have h2 : (num G T + 1) * (G.length : Int) ≤ cnt G * (G.length : Int) := Int.mul_le_mul_of_nonneg_right (by omega) (by omega)
  rw [Int.add_mul, Int.one_mul] at h2
  omega

theorem mvF_bnd {r : Int} {G : List Int} (h : isT G = true) {x : Int} {j d : Nat} (hd : j + d ≤ G.length) : ∀ y ∈ mvF r G x j d, 0 ≤ y ∧ y < cnt G * (G.length : Int) := by
  intro y hy
  obtain ⟨t, ht, he⟩ := List.mem_filterMap.1 hy
  have := List.mem_range'_1.1 ht
  unfold mvO at he
  split at he
  · exact mvN_bnd h (ofN_st _ (isT_gp h)) (by omega) (by omega) he
  · cases he

theorem div_lt' {x c K : Int} (hK : 1 ≤ K) (hx : x < c * K) : x / K < c := Int.ediv_lt_of_lt_mul (by omega) hx

theorem moves_loop {k : Nat} {p r : Int} {G : List Int} (W : Wt p r G) (hk : 2097152 ≤ k) {X : List (List Int)} {L : List Bool} {x : Int} (hx : 0 ≤ x) (hx2 : x < cnt G * (G.length : Int)) : ∀ (d j n : Nat) (out : List Int), G.length - j = d → j ≤ G.length → d < n → out.length ≤ j →
    impl_watch_moves.l0 k n ((p, r), G, X, L) (x % (G.length : Int)) (ofN G (x / (G.length : Int))) out p j = some (out ++ mvF r G x j d) := by
  have hl := isT_len W.t
  have hwl := W.l
  have hp := W.p1
  have hcp := W.c
  have hst := ofN_st (x / (G.length : Int)) (isT_gp W.t)
  have m1 := Int.emod_nonneg x (show (G.length : Int) ≠ 0 by omega)
  have m2 := Int.emod_lt_of_pos x (show 0 < (G.length : Int) by omega)
  intro d
  induction d with
  | zero =>
    intro j n out hd hj hn ho
    cases n with
    | zero => omega
    | succ n =>
      simp only [impl_watch_moves.l0, impl_watch_moves.s0]
      rw [if_neg (by omega)]
      simp [mvF]
  | succ d ih =>
    intro j n out hd hj hn ho
    cases n with
    | zero => omega
    | succ n =>
      simp only [impl_watch_moves.l0, impl_watch_moves.s0]
      rw [if_pos (by omega), step_f hk W.t hst, Option.bind_some, w64n (by omega), (near_ok m1 (by omega) (show (0 : Int) ≤ (j : Int) by omega) (by omega)).2, mvF_succ]
      unfold mvO mvN
      cases hs : step G (ofN G (x / (G.length : Int))) (j : Int) with
      | none =>
        simp only [stepR, Bool.false_eq_true, if_false, Option.map_none]
        rw [ih (j + 1) n out (by omega) (by omega) (by omega) (by omega)]
        split <;> simp_all
      | some T =>
        simp only [stepR, if_true, List.nil_append, Option.bind_some, Option.map_some]
        have hT := step_st (isT_gp W.t) hst hs
        obtain ⟨b1, b2⟩ := num_bnd (isT_gp W.t) hT
        by_cases hn' : nearV r (x % (G.length : Int)) (j : Int) = true
        · have h1 : 0 ≤ num G T * p := Int.mul_nonneg b1 (by omega)
          have h2 : num G T * p ≤ 20000 * p := Int.mul_le_mul_of_nonneg_right (by omega) (by omega)
          rw [if_pos hn', if_pos hn', number_f hk W.t hT, Option.bind_some, if_pos (by omega), w64 (x := num G T * p) (by omega) (by omega), w64 (by omega) (by omega), ih (j + 1) n _ (by omega) (by omega) (by omega) (by simp; omega), hwl]
          simp
        · rw [if_neg hn', if_neg hn', ih (j + 1) n _ (by omega) (by omega) (by omega) (by omega)]

theorem moves_f {k : Nat} {p r : Int} {G : List Int} (W : Wt p r G) (hk : 2097152 ≤ k) {X : List (List Int)} {L : List Bool} {x : Int} (hx : 0 ≤ x) (hx2 : x < cnt G * (G.length : Int)) : impl_watch_moves.f k ((p, r), G, X, L) x = some (mvs r G x) := by
  unfold impl_watch_moves.f impl_watch_moves.g
  have hl := isT_len W.t
  have hwl := W.l
  have hp := W.p1
  have hcp := W.c
  have d1 := Int.ediv_nonneg hx (show 0 ≤ (G.length : Int) by omega)
  have d2 := div_lt' (show 1 ≤ (G.length : Int) by omega) hx2
  subst hwl
  simp only
  rw [if_neg (by omega), if_neg (by omega), Int.tdiv_eq_ediv_of_nonneg hx, Int.tmod_eq_emod_of_nonneg hx, w64 (by omega) (by omega), numbered_f hk W.t d1 (by omega), Option.bind_some]
  have := moves_loop (X := X) (L := L) W hk hx hx2 G.length 0 k [] (by omega) (by omega) (by omega) (by simp)
  exact this

end Go.Proofs.Ytcbhhbkghbnljaa.Vf
