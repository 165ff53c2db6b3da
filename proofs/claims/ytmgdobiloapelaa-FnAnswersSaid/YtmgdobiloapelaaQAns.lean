/- Orders, and the answers of jobs in a fixed order. -/
import Derived.Test.YtmgdobiloapelaaQEdf
set_option linter.unusedVariables false
set_option linter.unusedSimpArgs false
namespace Go.Proofs.Ytmgdobiloapelaa.Vf
open Go Go.V Go.RowKit

/-! ### Orders -/
def OrdP (l : List Int) (n : Nat) : Prop := (∀ x ∈ l, 0 ≤ x ∧ x < (n : Int)) ∧ l.length = n ∧ l.Nodup
instance (l : List Int) (n : Nat) : Decidable (OrdP l n) := by unfold OrdP; exact inferInstance

def ordF (n : Int) : List Int → List Bool → Bool
  | [], _ => true
  | x :: s, m => decide (0 ≤ x ∧ x < n) && !(m.getD x.toNat false) && ordF n s (m.set x.toNat true)
theorem getD_setB (m : List Bool) (i j : Nat) (h : i < m.length) : (m.set i true).getD j false = if j = i then true else m.getD j false := by
  rw [List.getD_eq_getElem?_getD, List.getD_eq_getElem?_getD, List.getElem?_set]
  by_cases e : i = j
  · subst e; simp [h]
  · rw [if_neg e, if_neg (fun h => e h.symm)]
theorem ordF_iff (n : Nat) : ∀ (s : List Int) (m : List Bool), m.length = n → (ordF n s m = true ↔ (∀ x ∈ s, 0 ≤ x ∧ x < (n : Int)) ∧ s.Nodup ∧ ∀ x ∈ s, m.getD x.toNat false = false) := by
  intro s
  induction s with
  | nil => intro m hm; simp [ordF]
  | cons x s ih =>
    intro m hm
    rw [ordF, Bool.and_eq_true, Bool.and_eq_true, decide_eq_true_eq, ih _ (by simp [hm])]
    constructor
    · rintro ⟨⟨h1, h2⟩, h3, h4, h5⟩
      have h2' : m.getD x.toNat false = false := by simpa using h2
      refine ⟨?_, ?_, ?_⟩
      · intro y hy
        rcases List.mem_cons.mp hy with rfl | hy
        · exact h1
        · exact h3 y hy
      · rw [List.nodup_cons]
        refine ⟨fun hx => ?_, h4⟩
        have := h5 x hx
        rw [getD_setB m _ _ (by omega), if_pos rfl] at this
        cases this
      · intro y hy
        rcases List.mem_cons.mp hy with rfl | hy
        · exact h2'
        · have := h5 y hy
          rw [getD_setB m _ _ (by omega)] at this
          split at this
          · cases this
          · exact this
    · rintro ⟨h1, h2, h3⟩
      rw [List.nodup_cons] at h2
      have hx := h1 x (by simp)
      refine ⟨⟨hx, by rw [h3 x (by simp)]; rfl⟩, fun y hy => h1 y (by simp [hy]), h2.2, fun y hy => ?_⟩
      have hy1 := h1 y (by simp [hy])
      rw [getD_setB m _ _ (by omega), if_neg (fun e => ?_)]
      · exact h3 y (by simp [hy])
      · have : y = x := by omega
        subst this
        exact h2.1 hy

theorem specOrd_loop {k : Nat} {l : List Int} {n : Nat} (hl : l.length ≤ 1048576) (hn : n ≤ 1048576) : ∀ (d i f : Nat) (m : List Bool), l.length - i = d → i ≤ l.length → m.length = n → d < f →
    spec_l01Order.l0 k f l n m i = some (ordF n (l.drop i) m && decide (l.length = n)) := by
  intro d
  induction d with
  | zero =>
    intro i f m hd hi hm hf
    cases f with
    | zero => omega
    | succ f =>
      simp only [spec_l01Order.l0, spec_l01Order.s0]
      rw [if_neg (by omega), List.drop_eq_nil_of_le (by omega), ordF, Bool.true_and]
      congr 1
      rw [decide_eq_decide]; omega
  | succ d ih =>
    intro i f m hd hi hm hf
    cases f with
    | zero => omega
    | succ f =>
      simp only [spec_l01Order.l0, spec_l01Order.s0]
      rw [if_pos (by omega), if_pos (by omega), if_pos (by omega), l01In_f, Option.bind_some, drop_cons (by omega), ordF, w64 (x := (n : Int) - 1) (by omega) (by omega), w64n (by omega)]
      by_cases c : 0 ≤ rd l i ∧ rd l i ≤ (n : Int) - 1
      · rw [if_pos (decide_eq_true c), if_pos (by omega), if_pos (by omega), if_pos c.1, if_pos (by omega), decide_eq_true (show 0 ≤ rd l i ∧ rd l i < (n : Int) by omega), Bool.true_and]
        by_cases c2 : rdOf false m (rd l i) = true
        · have c3 : m.getD (rd l i).toNat false = true := c2
          rw [if_pos c2, c3]; rfl
        · have c3 : m.getD (rd l i).toNat false = false := by simpa [rdOf] using c2
          rw [if_neg c2, if_pos (by omega), if_pos (by omega), if_pos c.1, if_pos (by omega), c3, ih (i + 1) f _ (by omega) (by omega) (by simp [hm]) (by omega)]
          rfl
      · rw [if_neg (by simpa using c), decide_eq_false (show ¬ (0 ≤ rd l i ∧ rd l i < (n : Int)) by omega)]
        rfl

theorem specOrd_f {k : Nat} (hk : 2097152 ≤ k) {l : List Int} {n : Nat} (hl : l.length ≤ 1048576) (hn : n ≤ 1048576) : spec_l01Order.f k l n = some (decide (OrdP l n)) := by
  unfold spec_l01Order.f spec_l01Order.g
  rw [if_pos (by omega), if_pos (by omega), if_pos (by omega), Int.toNat_natCast]
  have := specOrd_loop (k := k) hl hn l.length 0 k (List.replicate n false) rfl (by omega) (by simp) (by omega)
  rw [List.drop_zero] at this
  refine this.trans ?_
  congr 1
  rw [Bool.eq_iff_iff, Bool.and_eq_true, decide_eq_true_iff, decide_eq_true_iff, ordF_iff n l _ (by simp)]
  unfold OrdP
  constructor
  · rintro ⟨⟨h1, h2, _⟩, h4⟩; exact ⟨h1, h4, h2⟩
  · rintro ⟨h1, h2, h3⟩
    refine ⟨⟨h1, h3, fun x _ => ?_⟩, h2⟩
    rw [List.getD_eq_getElem?_getD, List.getElem?_replicate]; split <;> rfl

theorem mpI_cons (a : Int) (v : Bool) (m : List (Int × Bool)) (x : Int) : mpI ((a, v) :: m) x true = if x = a then (x, true) :: m else (a, v) :: mpI m x true := by
  show (match decide (x = a) with | true => ((x, true) :: m : List (Int × Bool)) | false => (a, v) :: mpI m x true) = _
  by_cases h : x = a
  · rw [decide_eq_true h, if_pos h]
  · rw [decide_eq_false h, if_neg h]
theorem mput_keys : ∀ (m : List (Int × Bool)) (x : Int), (mpI m x true).map (·.1) = if x ∈ m.map (·.1) then m.map (·.1) else m.map (·.1) ++ [x]
  | [], x => by rw [if_neg (by simp)]; rfl
  | (a, v) :: m, x => by
    have ih := mput_keys m x
    rw [mpI_cons]
    by_cases h : x = a
    · subst h
      rw [if_pos rfl]
      simp
    · rw [if_neg h, List.map_cons, ih]
      by_cases h2 : x ∈ m.map (·.1)
      · rw [if_pos h2, if_pos (by simp only [List.map_cons, List.mem_cons]; exact .inr h2)]; rfl
      · rw [if_neg h2, if_neg (by simp only [List.map_cons, List.mem_cons]; exact fun h' => h'.elim (fun h3 => h h3) (fun h3 => h2 h3))]; rfl

/-- How many names there are behind some more. -/
def keysF : List Int → List Int → List Int
  | [], ks => ks
  | x :: s, ks => keysF s (if x ∈ ks then ks else ks ++ [x])
theorem keysF_len : ∀ (s ks : List Int), ks.Nodup → (keysF s ks).length ≤ ks.length + s.length ∧ ((keysF s ks).length = ks.length + s.length ↔ s.Nodup ∧ ∀ x ∈ s, x ∉ ks)
  | [], ks, h => by simp [keysF]
  | x :: s, ks, h => by
    simp only [keysF]
    by_cases c : x ∈ ks
    · rw [if_pos c]
      obtain ⟨h1, h2⟩ := keysF_len s ks h
      refine ⟨by simp only [List.length_cons]; omega, ?_⟩
      constructor
      · intro h3; simp only [List.length_cons] at h3; omega
      · rintro ⟨_, h4⟩; exact absurd c (h4 x (by simp))
    · rw [if_neg c]
      have hn : (ks ++ [x]).Nodup := by
        rw [List.nodup_append]
        exact ⟨h, by simp, fun a ha b hb => by simp only [List.mem_singleton] at hb; subst hb; rintro rfl; exact c ha⟩
      obtain ⟨h1, h2⟩ := keysF_len s (ks ++ [x]) hn
      simp only [List.length_append, List.length_singleton] at h1 h2
      refine ⟨by simp only [List.length_cons]; omega, ?_⟩
      rw [show ks.length + (x :: s).length = ks.length + 1 + s.length by simp only [List.length_cons]; omega, h2, List.nodup_cons]
      constructor
      · rintro ⟨h3, h4⟩
        refine ⟨⟨fun hx => (h4 x hx) (by simp), h3⟩, fun y hy => ?_⟩
        rcases List.mem_cons.1 hy with rfl | hy
        · exact c
        · exact fun hk => h4 y hy (by simp [hk])
      · rintro ⟨⟨h3, h4⟩, h5⟩
        refine ⟨h4, fun y hy hk => ?_⟩
        rcases List.mem_append.1 hk with hk | hk
        · exact h5 y (by simp [hy]) hk
        · simp only [List.mem_singleton] at hk; subst hk; exact h3 hy

theorem implOrd_loop {k : Nat} {l : List Int} {n : Nat} (hl : l.length ≤ 1048576) (hn : n ≤ 1048576) : ∀ (d i f : Nat) (m : List (Int × Bool)), l.length - i = d → i ≤ l.length → d < f →
    impl_isOrder.l0 k f l n m l l.length i = some (decide ((∀ x ∈ l.drop i, 0 ≤ x ∧ x < (n : Int)) ∧ l.length = n ∧ (keysF (l.drop i) (m.map (·.1))).length = l.length)) := by
  intro d
  induction d with
  | zero =>
    intro i f m hd hi hf
    cases f with
    | zero => omega
    | succ f =>
      simp only [impl_isOrder.l0, impl_isOrder.s0]
      rw [if_neg (by omega), List.drop_eq_nil_of_le (by omega), length_f, Option.bind_some, keysF, List.length_map]
      by_cases c : l.length = n
      · rw [if_pos (by omega)]
        congr 1
        rw [decide_eq_decide]
        constructor
        · intro h; exact ⟨by simp, c, by omega⟩
        · rintro ⟨_, _, h⟩; omega
      · rw [if_neg (by omega), decide_eq_false (fun h => c h.2.1)]
  | succ d ih =>
    intro i f m hd hi hf
    cases f with
    | zero => omega
    | succ f =>
      simp only [impl_isOrder.l0, impl_isOrder.s0]
      rw [if_pos (by omega), if_pos (by omega), if_pos (by omega), within_f, Option.bind_some, drop_cons (by omega), w64 (x := (n : Int) - 1) (by omega) (by omega), w64n (by omega)]
      by_cases c : 0 ≤ rd l i ∧ rd l i ≤ (n : Int) - 1
      · rw [if_pos (decide_eq_true c), ih (i + 1) f _ (by omega) (by omega) (by omega), mput_keys, keysF]
        congr 1
        rw [decide_eq_decide]
        constructor
        · rintro ⟨h1, h2, h3⟩
          refine ⟨fun y hy => ?_, h2, h3⟩
          rcases List.mem_cons.1 hy with rfl | hy
          · omega
          · exact h1 y hy
        · rintro ⟨h1, h2, h3⟩
          exact ⟨fun y hy => h1 y (by simp [hy]), h2, h3⟩
      · rw [if_neg (by simpa using c), decide_eq_false]
        rintro ⟨h1, _⟩
        exact c (by have := h1 (rd l i) (by simp); omega)

theorem implOrd_f {k : Nat} (hk : 2097152 ≤ k) {l : List Int} {n : Nat} (hl : l.length ≤ 1048576) (hn : n ≤ 1048576) : impl_isOrder.f k l n = some (decide (OrdP l n)) := by
  unfold impl_isOrder.f impl_isOrder.g
  have := implOrd_loop (k := k) hl hn l.length 0 k [] rfl (by omega) (by omega)
  rw [List.drop_zero] at this
  refine this.trans ?_
  congr 1
  rw [decide_eq_decide]
  have hk := (keysF_len l [] (by simp)).2
  unfold OrdP
  simp only [List.map_nil]
  simp only [List.length_nil, Nat.zero_add] at hk
  rw [hk]
  constructor
  · rintro ⟨h1, h2, h3, _⟩; exact ⟨h1, h2, h3⟩
  · rintro ⟨h1, h2, h3⟩; exact ⟨h1, h2, h3, by simp⟩

/-! ### Answers -/
def needS (L P : List Int) (r : Int) : List Int → Int → Int
  | [], a => a
  | j :: s, a => needS L P r s (a + Int.tdiv (r + rd P j - 1) (rd P j) * rd L j)
/-- Tasks that there are. -/
def Of (n : Nat) (s : List Int) : Prop := ∀ x ∈ s, 0 ≤ x ∧ x < (n : Int)
theorem rd_toNat (l : List Int) {j : Int} (h : 0 ≤ j) : rd l j = rd l (j.toNat : Int) := by rw [Int.toNat_of_nonneg h]
theorem JobsP.at {L P D : List Int} (J : JobsP L P D) {j : Int} (h0 : 0 ≤ j) (h1 : j < L.length) : (1 ≤ rd L j ∧ rd L j ≤ 20) ∧ (1 ≤ rd P j ∧ rd P j ≤ 60) ∧ 1 ≤ rd D j ∧ rd D j ≤ rd P j := by
  rw [rd_toNat L h0, rd_toNat P h0, rd_toNat D h0]
  exact J.each j.toNat (by omega)
theorem ceil_le {r p : Int} (hr : 0 ≤ r) (hp : 1 ≤ p) : 0 ≤ Int.tdiv (r + p - 1) p ∧ Int.tdiv (r + p - 1) p ≤ r := by
  rw [Int.tdiv_eq_ediv_of_nonneg (by omega)]
  constructor
  · exact Int.ediv_nonneg (by omega) (by omega)
  · have h1 := Int.ediv_mul_le (r + p - 1) (show p ≠ 0 by omega)
    rcases Int.lt_or_le r ((r + p - 1) / p) with h | h
    · have h2 : (r + 1) * p ≤ (r + p - 1) / p * p := Int.mul_le_mul_of_nonneg_right (by omega) (by omega)
      have h3 : (r + 1) * p = r * p + p := by rw [Int.add_mul, Int.one_mul]
      have h4 : r * 1 ≤ r * p := Int.mul_le_mul_of_nonneg_left hp hr
      omega
    · exact h
theorem ceil_mono {r r' p : Int} (hr : 0 ≤ r) (h : r ≤ r') (hp : 1 ≤ p) : Int.tdiv (r + p - 1) p ≤ Int.tdiv (r' + p - 1) p := by
  rw [Int.tdiv_eq_ediv_of_nonneg (by omega), Int.tdiv_eq_ediv_of_nonneg (by omega)]
  exact Int.ediv_le_ediv (by omega) (by omega)
theorem needS_ge {L P D : List Int} (J : JobsP L P D) {r : Int} (hr : 0 ≤ r) : ∀ (s : List Int) (a : Int), Of L.length s → a ≤ needS L P r s a := by
  intro s
  induction s with
  | nil => intro a _; exact Int.le_refl _
  | cons j s ih =>
    intro a hs
    have hj := hs j (by simp)
    have hJ := J.at hj.1 hj.2
    have hc := ceil_le (r := r) (p := rd P j) hr hJ.2.1.1
    have h1 := ih (a + Int.tdiv (r + rd P j - 1) (rd P j) * rd L j) (fun x hx => hs x (by simp [hx]))
    rw [needS]
    have h3 : 0 ≤ Int.tdiv (r + rd P j - 1) (rd P j) * rd L j := Int.mul_nonneg hc.1 (by omega)
    omega
theorem needS_mono {L P D : List Int} (J : JobsP L P D) {r r' : Int} (hr : 0 ≤ r) (h : r ≤ r') : ∀ (s : List Int) (a a' : Int), Of L.length s → a ≤ a' → needS L P r s a ≤ needS L P r' s a' := by
  intro s
  induction s with
  | nil => intro a a' _ h; exact h
  | cons j s ih =>
    intro a a' hs ha
    have hj := hs j (by simp)
    have hJ := J.at hj.1 hj.2
    rw [needS, needS]
    refine ih _ _ (fun x hx => hs x (by simp [hx])) ?_
    have := Int.mul_le_mul_of_nonneg_right (c := rd L j) (ceil_mono (p := rd P j) hr h hJ.2.1.1) (by omega)
    omega
/-- The least number from r on, d of them, that is what is needed up to it. -/
def fixF (f : Int → Int) : Nat → Int → Int
  | 0, _ => -1
  | d + 1, r => if f r = r then r else fixF f d (r + 1)
theorem fixF_skip (f : Int → Int) : ∀ (e d : Nat) (r : Int), (∀ x, r ≤ x → x < r + e → f x ≠ x) → fixF f (e + d) r = fixF f d (r + e) := by
  intro e
  induction e with
  | zero => intro d r _; simp
  | succ e ih =>
    intro d r h
    rw [show e + 1 + d = (e + d) + 1 by omega, fixF, if_neg (h r (by omega) (by omega)), ih d (r + 1) (fun x h1 h2 => h x (by omega) (by omega))]
    congr 1
    omega
theorem fixF_none (f : Int → Int) (d : Nat) (r : Int) (h : ∀ x, r ≤ x → x < r + d → f x ≠ x) : fixF f d r = -1 := by
  have := fixF_skip f d 0 r h
  rw [Nat.add_zero] at this
  rw [this]; rfl
theorem fixF_range (f : Int → Int) : ∀ (d : Nat) (r : Int), fixF f d r = -1 ∨ r ≤ fixF f d r ∧ fixF f d r < r + d ∧ f (fixF f d r) = fixF f d r := by
  intro d
  induction d with
  | zero => intro r; exact .inl rfl
  | succ d ih =>
    intro r
    rw [fixF]
    by_cases c : f r = r
    · rw [if_pos c]; exact .inr ⟨by omega, by omega, c⟩
    · rw [if_neg c]
      rcases ih (r + 1) with h | ⟨h1, h2, h3⟩
      · exact .inl h
      · exact .inr ⟨by omega, by omega, h3⟩
def needOf (L P : List Int) (s : List Int) (i r : Int) : Int := needS L P r s (rd L i)
/-- The answer of a task behind others. -/
def ansOf (L P D : List Int) (s : List Int) (i : Int) : Int := fixF (needOf L P s i) (rd D i).toNat 1

theorem rd_take {l : List Int} {a j : Nat} (h : j < a) : rd (l.take a) (j : Int) = rd l j := by
  rw [rd_nat, rd_nat, List.getD_eq_getElem?_getD, List.getD_eq_getElem?_getD, List.getElem?_take_of_lt h]

theorem specNeed {k : Nat} {L P D : List Int} (J : JobsP L P D) (o out : List Int) (ho : o.length ≤ 1000) (a0 : Nat) (hat : a0 < o.length) (hof : Of L.length o) (i r : Int) (hr : 0 ≤ r) (hr2 : r ≤ 60) {r0 : (List Int) → (List Int) → (List Int) → (List Int) → (List Int) → Int → Option ((List Int) × Int)} {r1 : (List Int) → (List Int) → (List Int) → (List Int) → (List Int) → Int → Int → Int → Option ((List Int) × Int)} : ∀ (d j n : Nat) (a : Int), a0 - j = d → j ≤ a0 → d < n → 0 ≤ a → a ≤ 1000 + 1200 * j →
    spec_AnswersOf.l2 k r0 r1 n o L P D out a0 i r a j = if needS L P r ((o.take a0).drop j) a = r then (if 0 ≤ i then (if i < (out.length : Int) then r0 o L P D (out.set i.toNat r) (wrap64 ((a0 : Int) + 1)) else none) else none) else r1 o L P D out a0 i (wrap64 (r + 1)) := by
  have hn8 := J.n8
  intro d
  induction d with
  | zero =>
    intro j n a hd hj hn h0 h1
    cases n with
    | zero => omega
    | succ n =>
      simp only [spec_AnswersOf.l2, spec_AnswersOf.s2]
      rw [if_neg (by omega), List.drop_eq_nil_of_le (by rw [List.length_take]; omega)]
      rfl
  | succ d ih =>
    intro j n a hd hj hn h0 h1
    cases n with
    | zero => omega
    | succ n =>
      have hxr := hof _ (rd_mem (l := o) (i := j) (by omega))
      have hJ := J.at hxr.1 hxr.2
      have hP := J.hP
      have hc := ceil_le (r := r) (p := rd P (rd o j)) hr hJ.2.1.1
      have h3 : 0 ≤ Int.tdiv (r + rd P (rd o j) - 1) (rd P (rd o j)) * rd L (rd o j) := Int.mul_nonneg hc.1 (by omega)
      have h4 : Int.tdiv (r + rd P (rd o j) - 1) (rd P (rd o j)) * rd L (rd o j) ≤ 60 * 20 := Int.mul_le_mul (by omega) hJ.1.2 (by omega) (by omega)
      have hdr : (o.take a0).drop j = rd o j :: (o.take a0).drop (j + 1) := by
        rw [drop_cons (by rw [List.length_take]; omega), rd_take (by omega)]
      have next := ih (j + 1) n (a + Int.tdiv (r + rd P (rd o j) - 1) (rd P (rd o j)) * rd L (rd o j)) (by omega) (by omega) (by omega) (by omega) (by generalize Int.tdiv (r + rd P (rd o j) - 1) (rd P (rd o j)) * rd L (rd o j) = Y at *; omega)
      simp only [spec_AnswersOf.l2, spec_AnswersOf.s2]
      rw [hdr, needS, w64n (by omega), w64 (x := r + rd P (rd o j)) (by omega) (by omega), w64 (x := r + rd P (rd o j) - 1) (by omega) (by omega), w64 (x := Int.tdiv (r + rd P (rd o j) - 1) (rd P (rd o j))) (by omega) (by omega), w64 (x := Int.tdiv (r + rd P (rd o j) - 1) (rd P (rd o j)) * rd L (rd o j)) (by omega) (by omega), w64 (x := a + Int.tdiv (r + rd P (rd o j) - 1) (rd P (rd o j)) * rd L (rd o j)) (by omega) (by omega)]
      rw [if_pos (by omega), if_pos (by omega), if_pos (by omega), if_pos (by omega), if_pos (by omega), if_pos (by omega), if_pos (by omega), if_neg (by omega), if_pos (by omega), if_pos (by omega)]
      exact next

theorem specFix {k : Nat} (hk : 2097152 ≤ k) {L P D : List Int} (J : JobsP L P D) (o : List Int) (ho : o.length ≤ 1000) (hof : Of L.length o) (a0 : Nat) (hat : a0 < o.length) (i : Int) (hi0 : 0 ≤ i) (hi1 : i < L.length) {r0 : (List Int) → (List Int) → (List Int) → (List Int) → (List Int) → Int → Option ((List Int) × Int)} : ∀ (d : Nat) (r : Int) (out : List Int) (n : Nat), out.length = L.length → 1 ≤ r → r + d = rd D i + 1 → rd out i = -1 → d < n →
    spec_AnswersOf.l1 k r0 n o L P D out a0 i r = r0 o L P D (out.set i.toNat (fixF (needOf L P (o.take a0) i) d r)) ((a0 + 1 : Nat) : Int) := by
  have hn8 := J.n8
  have hJ := J.at hi0 hi1
  have hD := J.hD
  intro d
  induction d with
  | zero =>
    intro r out n hout hr hd hm hn
    cases n with
    | zero => omega
    | succ n =>
      simp only [spec_AnswersOf.l1, spec_AnswersOf.s1]
      rw [if_pos (by omega), if_pos (by omega), if_neg (by omega), w64n (by omega)]
      have e : out.set i.toNat (-1) = out := by
        have : rd out i = out[i.toNat]'(by omega) := by rw [rd_toNat out hi0, rd_lt (by omega)]
        rw [← hm, this]
        exact List.set_getElem_self _
      rw [fixF, e]
  | succ d ih =>
    intro r out n hout hr hd hm hn
    cases n with
    | zero => omega
    | succ n =>
      have hneed := specNeed (k := k) J o out ho a0 hat hof i r (by omega) (by omega) (r0 := r0) (r1 := spec_AnswersOf.l1 k r0 n) a0 0 k (rd L i) rfl (by omega) (by omega) (by omega) (by omega)
      rw [show ((0 : Nat) : Int) = 0 from rfl, List.drop_zero] at hneed
      simp only [spec_AnswersOf.l1, spec_AnswersOf.s1]
      rw [if_pos (by omega), if_pos (by omega), if_pos (by omega), if_pos (by omega), if_pos (by omega), hneed, w64n (by omega), w64 (x := r + 1) (by omega) (by omega), fixF]
      by_cases c : needOf L P (o.take a0) i r = r
      · rw [if_pos c]
        exact (if_pos c).trans ((if_pos hi0).trans (if_pos (by omega)))
      · rw [if_neg c]
        refine (if_neg c).trans ?_
        exact ih (r + 1) out n hout (by omega) (by omega) hm (by omega)

/-- Answers, from one place of the order on. -/
def answersF (L P D o : List Int) : Nat → Nat → List Int → List Int
  | 0, _, out => out
  | d + 1, a, out => answersF L P D o d (a + 1) (out.set (rd o a).toNat (ansOf L P D (o.take a) (rd o a)))
theorem answersF_length (L P D o : List Int) : ∀ (d a : Nat) (out : List Int), (answersF L P D o d a out).length = out.length := by
  intro d
  induction d with
  | zero => intro a out; rfl
  | succ d ih => intro a out; rw [answersF, ih]; simp

theorem specAnswers_loop {k : Nat} (hk : 2097152 ≤ k) {L P D : List Int} (J : JobsP L P D) (o : List Int) (ho : o.length ≤ 1000) (hof : Of L.length o) : ∀ (d a n : Nat) (out : List Int), a + d = o.length → out.length = L.length → d < n →
    spec_AnswersOf.l0 k n o L P D out a = some (answersF L P D o d a out, 0) := by
  have hn8 := J.n8
  intro d
  induction d with
  | zero =>
    intro a n out ha hout hn
    cases n with
    | zero => omega
    | succ n =>
      simp only [spec_AnswersOf.l0, spec_AnswersOf.s0]
      rw [if_neg (by omega)]
      rfl
  | succ d ih =>
    intro a n out ha hout hn
    cases n with
    | zero => omega
    | succ n =>
      have hr := hof _ (rd_mem (l := o) (i := a) (by omega))
      have hJ := J.at hr.1 hr.2
      simp only [spec_AnswersOf.l0, spec_AnswersOf.s0]
      rw [if_pos (by omega), if_pos (by omega), if_pos (by omega), if_pos (by omega), if_pos (by omega), specFix hk J o ho hof a (by omega) (rd o a) hr.1 hr.2 (rd D (rd o a)).toNat 1 _ k (by simp [hout]) (by omega) (by omega) (by rw [rd_toNat _ hr.1, rdSet (by omega), if_pos rfl]) (by omega), List.set_set]
      exact ih (a + 1) n _ (by omega) (by simp [hout]) (by omega)

theorem implNeed {k : Nat} {L P D : List Int} (J : JobsP L P D) (o q : List Int) (hq : q.length ≤ 1000) (i r : Int) (hi0 : 0 ≤ i) (hi1 : i < L.length) (hr : 0 ≤ r) (hr2 : r ≤ 60) (hof : Of L.length q) {r0 : (List Int) → (List Int) → (List Int) → (List Int) → Int → Int → Option Int} : ∀ (d j n : Nat) (a : Int), q.length - j = d → j ≤ q.length → d < n → 0 ≤ a → a ≤ 1000 + 1200 * j →
    impl_Jobs_answer.l1 k r0 n o L P D i r a q (q.length : Int) j = if rd D i < needS L P r (q.drop j) a then some (-1) else (if needS L P r (q.drop j) a = r then some r else r0 o L P D i (needS L P r (q.drop j) a)) := by
  have hn8 := J.n8
  have hD := J.hD
  intro d
  induction d with
  | zero =>
    intro j n a hd hj hn h0 h1
    cases n with
    | zero => omega
    | succ n =>
      simp only [impl_Jobs_answer.l1, impl_Jobs_answer.s1]
      rw [if_neg (by omega), if_pos hi0, if_pos (by omega), List.drop_eq_nil_of_le (by omega)]
      show _ = if rd D i < a then some (-1) else if a = r then some r else r0 o L P D i a
      by_cases c1 : rd D i < a
      · rw [if_pos (decide_eq_true c1), if_pos c1]
      · rw [if_neg (by simpa using c1), if_neg c1]
        by_cases c2 : a = r
        · rw [if_pos (decide_eq_true c2), if_pos c2]
        · rw [if_neg (by simpa using c2), if_neg c2]
  | succ d ih =>
    intro j n a hd hj hn h0 h1
    cases n with
    | zero => omega
    | succ n =>
      have hxr := hof _ (rd_mem (l := q) (i := j) (by omega))
      have hJ := J.at hxr.1 hxr.2
      have hP := J.hP
      have hc := ceil_le (r := r) (p := rd P (rd q j)) hr hJ.2.1.1
      have h3 : 0 ≤ Int.tdiv (r + rd P (rd q j) - 1) (rd P (rd q j)) * rd L (rd q j) := Int.mul_nonneg hc.1 (by omega)
      have h4 : Int.tdiv (r + rd P (rd q j) - 1) (rd P (rd q j)) * rd L (rd q j) ≤ 60 * 20 := Int.mul_le_mul (by omega) hJ.1.2 (by omega) (by omega)
      have next := ih (j + 1) n (a + Int.tdiv (r + rd P (rd q j) - 1) (rd P (rd q j)) * rd L (rd q j)) (by omega) (by omega) (by omega) (by omega) (by generalize Int.tdiv (r + rd P (rd q j) - 1) (rd P (rd q j)) * rd L (rd q j) = Y at *; omega)
      simp only [impl_Jobs_answer.l1, impl_Jobs_answer.s1]
      rw [drop_cons (l := q) (i := j) (by omega), needS, w64n (by omega), w64 (x := r + rd P (rd q j)) (by omega) (by omega), w64 (x := r + rd P (rd q j) - 1) (by omega) (by omega), w64 (x := Int.tdiv (r + rd P (rd q j) - 1) (rd P (rd q j))) (by omega) (by omega), Int.mul_comm (rd L (rd q j)), w64 (x := Int.tdiv (r + rd P (rd q j) - 1) (rd P (rd q j)) * rd L (rd q j)) (by omega) (by omega), w64 (x := a + Int.tdiv (r + rd P (rd q j) - 1) (rd P (rd q j)) * rd L (rd q j)) (by omega) (by omega)]
      rw [if_pos (by omega), if_pos (by omega), if_pos (by omega), if_pos (by omega), if_pos (by omega), if_pos (by omega), if_pos (by omega), if_pos (by omega), if_pos (by omega), if_neg (by omega)]
      exact next

theorem implFix {k : Nat} (hk : 2097152 ≤ k) {L P D : List Int} (J : JobsP L P D) (o : List Int) (ho0 : 1 ≤ o.length) (ho : o.length ≤ 1000) (hof : Of L.length o) (i : Int) (hi0 : 0 ≤ i) (hi1 : i < L.length) : ∀ (m : Nat) (r : Int) (n : Nat), 1 ≤ r → r ≤ 60 → (60 - r).toNat ≤ m → r ≤ needOf L P (o.take (o.length - 1)) i r → m < n →
    impl_Jobs_answer.l0 k n o L P D i r = some (fixF (needOf L P (o.take (o.length - 1)) i) (rd D i + 1 - r).toNat r) := by
  have hn8 := J.n8
  have hJ := J.at hi0 hi1
  have hOf : Of L.length (o.take (o.length - 1)) := fun x hx => hof x (List.mem_of_mem_take hx)
  intro m
  induction m with
  | zero =>
    intro r n hr hr2 hm hge hn
    cases n with
    | zero => omega
    | succ n =>
      have hneed := implNeed (k := k) J o (o.take (o.length - 1)) (by simp; omega) i r hi0 hi1 (by omega) hr2 hOf (r0 := impl_Jobs_answer.l0 k n) (o.take (o.length - 1)).length 0 k (rd L i) rfl (by omega) (by simp; omega) (by omega) (by omega)
      rw [show ((0 : Nat) : Int) = 0 from rfl, List.drop_zero] at hneed
      simp only [impl_Jobs_answer.l0, impl_Jobs_answer.s0]
      rw [w64 (x := (o.length : Int) - 1) (by omega) (by omega), show ((o.length : Int) - 1).toNat = o.length - 1 by omega, if_pos hi0, if_pos hi1, if_pos (by omega), if_pos (by omega), hneed]
      by_cases c : rd D i < needOf L P (o.take (o.length - 1)) i r
      · refine (if_pos c).trans ?_
        congr 1
        symm
        refine fixF_none _ _ _ (fun x h1 h2 e => ?_)
        have := needS_mono J (by omega) h1 (o.take (o.length - 1)) (rd L i) (rd L i) hOf (Int.le_refl _)
        have e1 : needOf L P (o.take (o.length - 1)) i x = needS L P x (o.take (o.length - 1)) (rd L i) := rfl
        have e2 : needOf L P (o.take (o.length - 1)) i r = needS L P r (o.take (o.length - 1)) (rd L i) := rfl
        omega
      · have e2 : needOf L P (o.take (o.length - 1)) i r = r := by omega
        refine (if_neg c).trans ((if_pos e2).trans ?_)
        rw [show (rd D i + 1 - r).toNat = (rd D i - r).toNat + 1 by omega, fixF, if_pos e2]
  | succ m ih =>
    intro r n hr hr2 hm hge hn
    cases n with
    | zero => omega
    | succ n =>
      have hneed := implNeed (k := k) J o (o.take (o.length - 1)) (by simp; omega) i r hi0 hi1 (by omega) hr2 hOf (r0 := impl_Jobs_answer.l0 k n) (o.take (o.length - 1)).length 0 k (rd L i) rfl (by omega) (by simp; omega) (by omega) (by omega)
      rw [show ((0 : Nat) : Int) = 0 from rfl, List.drop_zero] at hneed
      simp only [impl_Jobs_answer.l0, impl_Jobs_answer.s0]
      rw [w64 (x := (o.length : Int) - 1) (by omega) (by omega), show ((o.length : Int) - 1).toNat = o.length - 1 by omega, if_pos hi0, if_pos hi1, if_pos (by omega), if_pos (by omega), hneed]
      have mono : ∀ x, r ≤ x → needOf L P (o.take (o.length - 1)) i r ≤ needOf L P (o.take (o.length - 1)) i x := fun x hx => needS_mono J (by omega) hx (o.take (o.length - 1)) (rd L i) (rd L i) hOf (Int.le_refl _)
      by_cases c : rd D i < needOf L P (o.take (o.length - 1)) i r
      · refine (if_pos c).trans ?_
        congr 1
        symm
        refine fixF_none _ _ _ (fun x h1 h2 e => ?_)
        have := mono x h1
        omega
      · refine (if_neg c).trans ?_
        by_cases e2 : needOf L P (o.take (o.length - 1)) i r = r
        · refine (if_pos e2).trans ?_
          rw [show (rd D i + 1 - r).toNat = (rd D i - r).toNat + 1 by omega, fixF, if_pos e2]
        · refine (if_neg e2).trans ?_
          have hge2 := mono (needOf L P (o.take (o.length - 1)) i r) hge
          have step := ih (needOf L P (o.take (o.length - 1)) i r) n (by omega) (by omega) (by omega) hge2 (by omega)
          refine Eq.trans step ?_
          have skip := fixF_skip (needOf L P (o.take (o.length - 1)) i) (needOf L P (o.take (o.length - 1)) i r - r).toNat (rd D i + 1 - needOf L P (o.take (o.length - 1)) i r).toNat r (fun x h1 h2 e => by have := mono x h1; omega)
          rw [show (needOf L P (o.take (o.length - 1)) i r - r).toNat + (rd D i + 1 - needOf L P (o.take (o.length - 1)) i r).toNat = (rd D i + 1 - r).toNat by omega] at skip
          rw [skip]
          congr 2
          omega

theorem implAnswer {k : Nat} (hk : 2097152 ≤ k) {L P D : List Int} (J : JobsP L P D) (o : List Int) (ho : o.length ≤ 1000) (hof : Of L.length o) (a : Nat) (ha : a < o.length) :
    impl_Jobs_answer.f k L P D (o.take (a + 1)) = some (ansOf L P D (o.take a) (rd o a)) := by
  have hr := hof _ (rd_mem ha)
  have hJ := J.at hr.1 hr.2
  have hlen : (o.take (a + 1)).length = a + 1 := by rw [List.length_take]; omega
  have hlast : rd (o.take (a + 1)) ((a : Nat) : Int) = rd o a := rd_take (by omega)
  have htake : (o.take (a + 1)).take ((o.take (a + 1)).length - 1) = o.take a := by rw [hlen, List.take_take]; congr 1; omega
  have hOf1 : Of L.length (o.take (a + 1)) := fun x hx => hof x (List.mem_of_mem_take hx)
  have hOf : Of L.length (o.take a) := fun x hx => hof x (List.mem_of_mem_take hx)
  unfold impl_Jobs_answer.f impl_Jobs_answer.g
  rw [hlen, w64 (x := ((a + 1 : Nat) : Int) - 1) (by omega) (by omega), show ((a + 1 : Nat) : Int) - 1 = ((a : Nat) : Int) by omega, hlast, if_pos (by omega), if_pos (by omega), if_pos (by omega), if_pos (by omega)]
  have hge : ∀ r, 0 ≤ r → rd L (rd o a) ≤ needOf L P (o.take a) (rd o a) r := fun r h => needS_ge J h (o.take a) (rd L (rd o a)) hOf
  have h := implFix hk J (o.take (a + 1)) (by omega) (by omega) hOf1 (rd o a) hr.1 hr.2 60 (rd L (rd o a)) k (by omega) (by omega) (by omega) (by rw [htake]; exact hge _ (by omega)) (by omega)
  rw [htake] at h
  refine Eq.trans h ?_
  congr 1
  unfold ansOf
  have no : ∀ x, 1 ≤ x → x < rd L (rd o a) → needOf L P (o.take a) (rd o a) x ≠ x := fun x h1 h2 e => by have := hge x (by omega); omega
  by_cases c : rd L (rd o a) ≤ rd D (rd o a) + 1
  · have skip := fixF_skip (needOf L P (o.take a) (rd o a)) (rd L (rd o a) - 1).toNat (rd D (rd o a) + 1 - rd L (rd o a)).toNat 1 (fun x h1 h2 => no x h1 (by omega))
    rw [show (rd L (rd o a) - 1).toNat + (rd D (rd o a) + 1 - rd L (rd o a)).toNat = (rd D (rd o a)).toNat by omega] at skip
    rw [skip]
    congr 1
    omega
  · rw [fixF_none _ (rd D (rd o a)).toNat 1 (fun x h1 h2 => no x h1 (by omega)), show (rd D (rd o a) + 1 - rd L (rd o a)).toNat = 0 by omega]
    rfl

theorem implAnswers_loop {k : Nat} (hk : 2097152 ≤ k) {L P D : List Int} (J : JobsP L P D) (o : List Int) (ho : o.length ≤ 1000) (hof : Of L.length o) : ∀ (d a n : Nat) (out : List Int), a + d = o.length → out.length = L.length → d < n →
    impl_AnswersOf.l0 k n o L P D out o (o.length : Int) a = some (answersF L P D o d a out, 0) := by
  have hn8 := J.n8
  intro d
  induction d with
  | zero =>
    intro a n out ha hout hn
    cases n with
    | zero => omega
    | succ n =>
      simp only [impl_AnswersOf.l0, impl_AnswersOf.s0]
      rw [if_neg (by omega)]
      rfl
  | succ d ih =>
    intro a n out ha hout hn
    cases n with
    | zero => omega
    | succ n =>
      have hr := hof _ (rd_mem (l := o) (i := a) (by omega))
      simp only [impl_AnswersOf.l0, impl_AnswersOf.s0]
      rw [w64n (by omega), Int.toNat_natCast, implAnswer hk J o ho hof a (by omega), if_pos (by omega), if_pos (by omega), if_pos (by omega), if_pos (by omega), if_pos (by omega), Option.bind_some, if_pos (by omega), if_pos (by omega)]
      exact ih (a + 1) n _ (by omega) (by simp [hout]) (by omega)

def answersR (L P D o : List Int) : List Int × Int :=
  if jobsOk L P D = true then (if OrdP o L.length then (answersF L P D o o.length 0 (List.replicate L.length 0), 0) else ([], 2)) else ([], 1)

theorem answers_ok {k : Nat} (hk : 2097152 ≤ k) (L P D o : List Int) (hL : L.length ≤ 1048576) (ho : o.length ≤ 1048576) : impl_AnswersOf.f k L P D o = some (answersR L P D o) ∧ spec_AnswersOf.f k L P D o = some (answersR L P D o) := by
  unfold impl_AnswersOf.f impl_AnswersOf.g spec_AnswersOf.f spec_AnswersOf.g answersR
  simp only [jobsMany_f, implOrd_f hk ho hL, jobsCode2_f hk, l04Is_f hk, Option.bind_some]
  by_cases h : jobsOk L P D = true
  · have J := (jobsOk_iff L P D).1 h
    have hn := J.n8
    rw [if_pos h, if_pos h, h, if_neg (show ¬ (!decide (true = true)) = true by decide), specOrd_f hk ho hL, Option.bind_some]
    by_cases h2 : OrdP o L.length
    · have hl := h2.2.1
      have hof : Of L.length o := h2.1
      rw [if_pos h2, decide_eq_true h2, if_pos rfl, if_pos rfl, if_neg (show ¬ (!decide (true = true)) = true by decide), if_pos (by omega), if_pos (by omega), if_pos (by omega), if_pos (by omega), if_pos (by omega), if_pos (by omega), Int.toNat_natCast, Int.toNat_natCast]
      exact ⟨implAnswers_loop hk J o (by omega) hof o.length 0 k _ (by omega) (by simp) (by omega), by rw [hl]; rw [← hl]; exact specAnswers_loop hk J o (by omega) hof o.length 0 k _ (by omega) (by simp [hl]) (by omega)⟩
    · rw [if_neg h2, decide_eq_false h2, if_neg (by decide), if_neg (by decide), if_pos (by decide)]
      exact ⟨rfl, rfl⟩
  · rw [if_neg h, if_neg h, if_neg (by decide), if_pos (by simpa using h)]
    exact ⟨rfl, rfl⟩

theorem answersR_length (L P D o : List Int) : (answersR L P D o).1.length ≤ 8 := by
  unfold answersR
  by_cases h : jobsOk L P D = true
  · rw [if_pos h]
    split
    · show (answersF _ _ _ _ _ _ _).length ≤ 8
      rw [answersF_length, List.length_replicate]
      exact ((jobsOk_iff L P D).mp h).n8
    · simp
  · rw [if_neg h]; simp
end Go.Proofs.Ytmgdobiloapelaa.Vf
