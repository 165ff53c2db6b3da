/- Tasks on channels: what the functions of program and reference give. -/
import Derived.Test.YtcbhhbkghbnljaaQ08c
set_option linter.unusedVariables false
set_option linter.unusedSimpArgs false
namespace Go.Proofs.Ytcbhhbkghbnljaa.Vf
open Go Go.V Go.RowKit

/-- The state behind a set. -/
def stepSA (x : Nat) : Nat → List Int → List Int → Option (List Int)
  | j, g :: G, s :: S => if x.testBit j = true then (stepSA x (j + 1) G S).map (g :: ·) else if s < 2 then none else (stepSA x (j + 1) G S).map ((s - 1) :: ·)
  | _, _, _ => some []
def stepS (G S : List Int) (x : Nat) : Option (List Int) := stepSA x 0 G S

theorem stepSA_st {x : Nat} : ∀ {j : Nat} {G S T : List Int}, Gp G → Stt G S → stepSA x j G S = some T → Stt G T
  | j, [], [], T, _, _, h => by simp [stepSA] at h; subst h; trivial
  | j, g :: G, s :: S, T, hG, hs, h => by
    simp only [stepSA] at h
    split at h
    · obtain ⟨T', h1, rfl⟩ := Option.map_eq_some_iff.1 h
      exact ⟨⟨(hG.head).1, Int.le_refl _⟩, stepSA_st hG.tail hs.2 h1⟩
    · split at h
      · cases h
      · obtain ⟨T', h1, rfl⟩ := Option.map_eq_some_iff.1 h
        have := hs.1
        exact ⟨by omega, stepSA_st hG.tail hs.2 h1⟩
  | j, [], _ :: _, _, _, h, _ => h.elim
  | j, _ :: _, [], _, _, h, _ => h.elim

theorem stepS_st {G S T : List Int} {x : Nat} (hG : Gp G) (hs : Stt G S) (h : stepS G S x = some T) : Stt G T := stepSA_st hG hs h

theorem l08Step_loop {k : Nat} {G S : List Int} {x : Nat} (hx : x < 256) (hG : Gp G) (hl : G.length ≤ 8) (hs : Stt G S) : ∀ (d i n : Nat) (out : List Int), G.length - i = d → i ≤ G.length → d < n → out.length = i →
    spec_l08Step.l0 k n S (x : Int) G out i = some (stepR out (stepSA x i (G.drop i) (S.drop i))) := by
  have hsl := hs.length
  intro d
  induction d with
  | zero =>
    intro i n out hd hi hn ho
    obtain rfl : i = G.length := by omega
    cases n with
    | zero => omega
    | succ n =>
      simp only [spec_l08Step.l0, spec_l08Step.s0]
      rw [if_neg (by omega), List.drop_length]
      simp [stepSA, stepR]
  | succ d ih =>
    intro i n out hd hi hn ho
    cases n with
    | zero => omega
    | succ n =>
      simp only [spec_l08Step.l0, spec_l08Step.s0]
      have hg := hG _ (rd_mem (l := G) (i := i) (by omega))
      obtain ⟨e1, e2⟩ := stt_at (i := i) hs (by omega)
      rw [drop_cons (l := G) (by omega), drop_cons (l := S) (by omega), if_pos (by omega), u64_nat (by omega), if_neg (by omega)]
      simp only [stepSA]
      by_cases hc : x.testBit i = true
      · rw [if_pos (by simpa using (bit_nat hx (by omega)).2 hc), if_pos hc, if_pos (by omega), if_pos (by omega), if_pos (by omega), w64n (by omega), ih (i + 1) n _ (by omega) (by omega) (by omega) (by simp [ho]), stepR_map]
      · rw [if_neg (by simpa using fun q => hc ((bit_nat hx (by omega)).1 q)), if_neg hc, if_pos (by omega), if_pos (by omega)]
        by_cases h2 : rd S i < 2
        · rw [if_pos (by simp; omega), if_pos h2]; rfl
        · rw [if_neg (by simp; omega), if_neg h2, if_pos (by omega), if_pos (by omega), if_pos (by omega), w64 (x := rd S i - 1) (by omega) (by omega), w64n (by omega), ih (i + 1) n _ (by omega) (by omega) (by omega) (by simp [ho]), stepR_map]

theorem l08Step_f {k : Nat} {G S : List Int} {x : Nat} (hk : 2097152 ≤ k) (hx : x < 256) (h : isT G = true) (hs : Stt G S) : spec_l08Step.f k G S (x : Int) = some (stepR [] (stepS G S x)) := by
  unfold spec_l08Step.f spec_l08Step.g
  have := isT_len h
  exact l08Step_loop (k := k) hx (isT_gp h) (isT_len h).2 hs G.length 0 k [] (by omega) (by omega) (by omega) rfl

theorem setStep_loop {k : Nat} {G S : List Int} {x : Nat} (hx : x < 256) (hG : Gp G) (hl : G.length ≤ 8) (hs : Stt G S) : ∀ (d i n : Nat) (out : List Int), G.length - i = d → i ≤ G.length → d < n → out.length = i →
    impl_Tasks_setStep.l0 k n (x : Int) G (out ++ S.drop i) S.length i = some (stepR out (stepSA x i (G.drop i) (S.drop i))) := by
  have hsl := hs.length
  intro d
  induction d with
  | zero =>
    intro i n out hd hi hn ho
    obtain rfl : i = G.length := by omega
    cases n with
    | zero => omega
    | succ n =>
      simp only [impl_Tasks_setStep.l0, impl_Tasks_setStep.s0]
      rw [if_neg (by omega), List.drop_length, List.drop_eq_nil_of_le (by omega)]
      simp [stepSA, stepR]
  | succ d ih =>
    intro i n out hd hi hn ho
    cases n with
    | zero => omega
    | succ n =>
      have hg := hG _ (rd_mem (l := G) (i := i) (by omega))
      obtain ⟨e1, e2⟩ := stt_at (i := i) hs (by omega)
      have hlen : (out ++ S.drop i).length = S.length := by simp; omega
      simp only [impl_Tasks_setStep.l0, impl_Tasks_setStep.s0]
      rw [hlen, rd_app out S i ho (by omega), Int.toNat_natCast, set_app out S i _ ho (by omega), set_app out S i _ ho (by omega)]
      conv => rhs; rw [drop_cons (l := G) (i := i) (by omega), drop_cons (l := S) (i := i) (by omega)]
      rw [if_pos (by omega), if_neg (by omega)]
      simp only [stepSA]
      by_cases hc : x.testBit i = true
      · rw [if_pos (by simpa using (bit_nat hx (by omega)).2 hc), if_pos hc, if_pos (by omega), if_pos (by omega), if_pos (by omega), if_pos (by omega), w64n (by omega), ih (i + 1) n _ (by omega) (by omega) (by omega) (by simp [ho]), stepR_map]
      · rw [if_neg (by simpa using fun q => hc ((bit_nat hx (by omega)).1 q)), if_neg hc, if_pos (by omega), if_pos (by omega)]
        by_cases h2 : rd S i < 2
        · rw [if_pos (by simpa using h2), if_pos h2]; rfl
        · rw [if_neg (by simpa using h2), if_neg h2, if_pos (by omega), if_pos (by omega), if_pos (by omega), if_pos (by omega), w64 (x := rd S i - 1) (by omega) (by omega), w64n (by omega), ih (i + 1) n _ (by omega) (by omega) (by omega) (by simp [ho]), stepR_map]

theorem setStep_f {k : Nat} {G S : List Int} {x : Nat} (hk : 2097152 ≤ k) (hx : x < 256) (h : isT G = true) (hs : Stt G S) : impl_Tasks_setStep.f k G S (x : Int) = some (stepR [] (stepS G S x)) := by
  unfold impl_Tasks_setStep.f impl_Tasks_setStep.g
  have := isT_len h
  have hsl := hs.length
  rw [clone_f (by omega), Option.bind_some]
  exact setStep_loop (k := k) hx (isT_gp h) (isT_len h).2 hs G.length 0 k [] (by omega) (by omega) (by omega) rfl

/-! ### Sets -/

def okS (m : Int) (x : Nat) : Bool := decide ((popc x : Int) ≤ m)
def setsF (m : Int) (j d : Nat) : List Nat := (List.range' j d).filter (okS m)
def setsN (G : List Int) (m : Int) : List Nat := setsF m 0 (2 ^ G.length)

theorem setsF_succ (m : Int) (j d : Nat) : setsF m j (d + 1) = if okS m j = true then j :: setsF m (j + 1) d else setsF m (j + 1) d := by
  unfold setsF
  rw [List.range'_succ, List.filter_cons]

theorem setsF_mem {m : Int} {j d x : Nat} (h : x ∈ setsF m j d) : j ≤ x ∧ x < j + d := by
  have := List.mem_range'_1.1 (List.mem_filter.1 h).1
  omega

theorem sets_loop {k : Nat} {G : List Int} {m : Int} (hl : G.length ≤ 8) : ∀ (d j n : Nat) (out : List Int), 2 ^ G.length - j = d → j ≤ 2 ^ G.length → d < n → out.length ≤ j → 2097152 ≤ k →
    spec_l08Sets.l0 k n m G out j = some (out ++ (setsF m j d).map fun x : Nat => (x : Int)) := by
  have hp := pow_le8 hl
  intro d
  induction d with
  | zero =>
    intro j n out hd hj hn ho hk
    cases n with
    | zero => omega
    | succ n =>
      simp only [spec_l08Sets.l0, spec_l08Sets.s0]
      rw [u64_nat (by omega), if_neg (by omega), shlV_nat hl, if_neg (by omega)]
      simp [setsF]
  | succ d ih =>
    intro j n out hd hj hn ho hk
    cases n with
    | zero => omega
    | succ n =>
      simp only [spec_l08Sets.l0, spec_l08Sets.s0]
      rw [u64_nat (by omega), if_neg (by omega), shlV_nat hl, if_pos (by omega), size8_f hk (by omega), Option.bind_some, w64n (by omega), setsF_succ]
      by_cases hc : (popc j : Int) ≤ m
      · rw [if_pos hc, if_pos (by omega), if_pos (show okS m j = true from decide_eq_true hc), ih (j + 1) n _ (by omega) (by omega) (by omega) (by simp; omega) hk]
        simp
      · rw [if_neg hc, if_neg (show ¬ okS m j = true from fun q => hc (of_decide_eq_true q)), ih (j + 1) n _ (by omega) (by omega) (by omega) (by omega) hk]

theorem sets_f {k : Nat} {G : List Int} {m : Int} (hk : 2097152 ≤ k) (hl : G.length ≤ 8) : spec_l08Sets.f k G m = some ((setsN G m).map fun x : Nat => (x : Int)) := by
  unfold spec_l08Sets.f spec_l08Sets.g
  have hp := pow_le8 hl
  exact sets_loop (k := k) hl (2 ^ G.length) 0 k [] (by omega) (by omega) (by omega) (by simp) hk

/-! ### The sets that are open -/

def opE (G S : List Int) (x : Nat) : Option (Int × Int) := (stepS G S x).map fun T => ((x : Int), num G T)
def opns (G S : List Int) (m : Int) : List (Int × Int) := (setsN G m).filterMap (opE G S)

theorem stepSA_none {x : Nat} : ∀ {j : Nat} {G S : List Int}, Stt G S → ((stepSA x j G S).isSome = true ↔ ∀ i : Nat, i < S.length → rd S i < 2 → x.testBit (j + i) = true)
  | j, [], [], _ => by simp [stepSA]
  | j, g :: G, s :: S, hs => by
    have ih := stepSA_none (x := x) (j := j + 1) hs.2
    simp only [stepSA]
    have h0 : rd (s :: S) ((0 : Nat) : Int) = s := rfl
    have hS : ∀ i : Nat, rd (s :: S) ((i + 1 : Nat) : Int) = rd S (i : Int) := fun i => by rw [rd_nat, rd_nat]; rfl
    constructor
    · intro h i hi h2
      cases i with
      | zero =>
        rw [h0] at h2
        by_cases hb : x.testBit j = true
        · exact hb
        · rw [if_neg hb, if_pos h2] at h; cases h
      | succ i =>
        rw [hS] at h2
        have h3 : (stepSA x (j + 1) G S).isSome = true := by
          by_cases hb : x.testBit j = true
          · rw [if_pos hb] at h; simpa using h
          · rw [if_neg hb] at h
            by_cases h4 : s < 2
            · rw [if_pos h4] at h; cases h
            · rw [if_neg h4] at h; simpa using h
        have := ih.1 h3 i (by simpa using hi) h2
        rwa [show j + 1 + i = j + (i + 1) by omega] at this
    · intro h
      have h3 : (stepSA x (j + 1) G S).isSome = true := ih.2 fun i hi h2 => by
        have := h (i + 1) (by simpa using hi) (by rw [hS]; exact h2)
        rwa [show j + 1 + i = j + (i + 1) by omega]
      by_cases hb : x.testBit j = true
      · rw [if_pos hb]; simpa using h3
      · rw [if_neg hb, if_neg (fun h4 => hb (by have := h 0 (by simp) (by rw [h0]; exact h4); simpa using this))]; simpa using h3
  | j, [], _ :: _, h => h.elim
  | j, _ :: _, [], h => h.elim

/-- Which tasks must be in a set. -/
structure MustOf (S : List Int) (i m : Nat) : Prop where
  lt : m < 2 ^ S.length
  bit : ∀ j, m.testBit j = decide (j < i ∧ j < S.length ∧ rd S j < 2)

theorem must_sub {S : List Int} {m : Nat} (M : MustOf S S.length m) (x : Nat) : (x &&& m = m) ↔ ∀ i : Nat, i < S.length → rd S i < 2 → x.testBit i = true := by
  constructor
  · intro h i hi h2
    have h3 : m.testBit i = true := by rw [M.bit]; simp [hi, h2]
    rw [← h, Nat.testBit_and, Bool.and_eq_true] at h3
    exact h3.1
  · intro h
    apply Nat.eq_of_testBit_eq
    intro i
    rw [Nat.testBit_and]
    cases hb : m.testBit i with
    | false => simp
    | true =>
      rw [M.bit] at hb
      obtain ⟨_, h1, h2⟩ := of_decide_eq_true hb
      rw [h i h1 h2]; rfl

theorem open_iff {G S : List Int} {m x : Nat} (hs : Stt G S) (M : MustOf S S.length m) : (x &&& m = m) ↔ (stepS G S x).isSome = true := by
  rw [must_sub M x]
  unfold stepS
  rw [stepSA_none hs]
  simp

theorem openings_l1 {k : Nat} {G S : List Int} {m : Int} {mu : Nat} (hk : 2097152 ≤ k) (h : isT G = true) (hs : Stt G S) (M : MustOf S S.length mu) : ∀ (d j n : Nat) (out : List (Int × Int)), 2 ^ G.length - j = d → j ≤ 2 ^ G.length → d < n → out.length ≤ j →
    impl_Tasks_openings.l1 k n S m G (mu : Int) out j = some (out ++ (setsF m j d).filterMap (opE G S)) := by
  have hl := isT_len h
  have hsl := hs.length
  have hp := pow_le8 hl.2
  have hmu := M.lt
  rw [hsl] at hmu
  intro d
  induction d with
  | zero =>
    intro j n out hd hj hn ho
    cases n with
    | zero => omega
    | succ n =>
      simp only [impl_Tasks_openings.l1, impl_Tasks_openings.s1]
      rw [many_f, Option.bind_some, if_neg (by omega), shlV_nat hl.2, if_neg (by omega)]
      simp [setsF]
  | succ d ih =>
    intro j n out hd hj hn ho
    cases n with
    | zero => omega
    | succ n =>
      simp only [impl_Tasks_openings.l1, impl_Tasks_openings.s1]
      rw [many_f, Option.bind_some, if_neg (by omega), shlV_nat hl.2, if_pos (by omega), andV_nat (by omega) (by omega), w64n (by omega), setsF_succ]
      by_cases ha : j &&& mu = mu
      · rw [if_pos (by omega), members_f (by omega), Option.bind_some]
        have ho' := (open_iff hs M).1 ha
        obtain ⟨T, hT⟩ := Option.isSome_iff_exists.1 ho'
        by_cases hc : (popc j : Int) ≤ m
        · rw [if_pos hc, if_pos (show okS m j = true from decide_eq_true hc), setStep_f hk (by omega) h hs, hT, Option.bind_some]
          simp only [stepR, List.nil_append]
          rw [number_f hk h (stepS_st (isT_gp h) hs hT), Option.bind_some, if_pos (by omega), ih (j + 1) n _ (by omega) (by omega) (by omega) (by simp; omega), List.filterMap_cons]
          simp [opE, hT]
        · rw [if_neg hc, if_neg (show ¬ okS m j = true from fun q => hc (of_decide_eq_true q)), ih (j + 1) n _ (by omega) (by omega) (by omega) (by omega)]
      · rw [if_neg (by omega), ih (j + 1) n _ (by omega) (by omega) (by omega) (by omega)]
        have hno : stepS G S j = none := by
          cases hst : stepS G S j with
          | none => rfl
          | some T => exact absurd ((open_iff hs M).2 (by rw [hst]; rfl)) ha
        split
        · rw [List.filterMap_cons]; simp [opE, hno]
        · rfl

theorem openings_l0 {k : Nat} {G S : List Int} {m : Int} (hk : 2097152 ≤ k) (h : isT G = true) (hs : Stt G S) : ∀ (d i n mu : Nat), S.length - i = d → i ≤ S.length → d < n → MustOf S i mu →
    ∃ mu', MustOf S S.length mu' ∧ impl_Tasks_openings.l0 k n S m G (mu : Int) S S.length i = impl_Tasks_openings.l1 k k S m G (mu' : Int) [] (mu' : Int) := by
  have hl := isT_len h
  have hsl := hs.length
  intro d
  induction d with
  | zero =>
    intro i n mu hd hi hn M
    cases n with
    | zero => omega
    | succ n =>
      obtain rfl : i = S.length := by omega
      refine ⟨mu, M, ?_⟩
      simp only [impl_Tasks_openings.l0, impl_Tasks_openings.s0]
      rw [if_neg (by omega)]
  | succ d ih =>
    intro i n mu hd hi hn M
    cases n with
    | zero => omega
    | succ n =>
      have hmu := M.lt
      have hp := pow_le8 (show S.length ≤ 8 by omega)
      have hpi := pow_le8 (show i ≤ 8 by omega)
      have hpi2 : 2 ^ i < 2 ^ S.length := Nat.pow_lt_pow_right (by omega) (by omega)
      simp only [impl_Tasks_openings.l0, impl_Tasks_openings.s0]
      rw [if_pos (by omega), if_pos (by omega), if_pos (by omega), w64n (by omega)]
      by_cases h2 : rd S i < 2
      · rw [if_pos h2, if_neg (by omega), shlV_nat (by omega), orV_nat (by omega) (by omega)]
        refine ih (i + 1) n (mu ||| 2 ^ i) (by omega) (by omega) (by omega) ⟨Nat.or_lt_two_pow hmu hpi2, fun j => ?_⟩
        rw [Nat.testBit_or, M.bit, Nat.testBit_two_pow]
        by_cases e : i = j
        · subst e; simp; exact ⟨by omega, h2⟩
        · have e2 : (decide (i = j)) = false := decide_eq_false e
          rw [e2, Bool.or_false, decide_eq_decide]
          omega
      · rw [if_neg h2]
        refine ih (i + 1) n mu (by omega) (by omega) (by omega) ⟨hmu, fun j => ?_⟩
        rw [M.bit, decide_eq_decide]
        constructor
        · rintro ⟨a, b, c⟩; exact ⟨by omega, b, c⟩
        · rintro ⟨a, b, c⟩
          refine ⟨?_, b, c⟩
          by_cases e : j = i
          · rw [e] at c; exact absurd c h2
          · omega

theorem setsF_split (m : Int) (f : Nat → Option (Int × Int)) : ∀ (a j d : Nat), (∀ x, j ≤ x → x < j + a → f x = none) → (setsF m j (a + d)).filterMap f = (setsF m (j + a) d).filterMap f
  | 0, j, d, _ => by simp
  | a + 1, j, d, h => by
    rw [show a + 1 + d = (a + d) + 1 by omega, setsF_succ]
    have h1 := setsF_split m f a (j + 1) d fun x h1 h2 => h x (by omega) (by omega)
    rw [show j + 1 + a = j + (a + 1) by omega] at h1
    split
    · rw [List.filterMap_cons, h j (by omega) (by omega)]; exact h1
    · exact h1

theorem openings_f {k : Nat} {G S : List Int} {m : Int} (hk : 2097152 ≤ k) (h : isT G = true) (hs : Stt G S) : impl_Tasks_openings.f k G S m = some (opns G S m) := by
  unfold impl_Tasks_openings.f impl_Tasks_openings.g
  have hl := isT_len h
  have hsl := hs.length
  have hp := pow_le8 hl.2
  obtain ⟨mu, M, e⟩ := openings_l0 (k := k) (m := m) hk h hs S.length 0 k 0 (by omega) (by omega) (by omega) ⟨by have := pow_le8 (show S.length ≤ 8 by omega); omega, fun j => by simp⟩
  refine Eq.trans e ?_
  have hmu := M.lt
  rw [hsl] at hmu
  rw [openings_l1 hk h hs M (2 ^ G.length - mu) mu k [] rfl (by omega) (by omega) (by simp), List.nil_append]
  congr 1
  unfold opns setsN
  have := setsF_split m (opE G S) mu 0 (2 ^ G.length - mu) (fun x _ hx => by
    cases hst : stepS G S x with
    | none => simp [opE, hst]
    | some T =>
      have h1 := (open_iff (x := x) hs M).2 (by rw [hst]; rfl)
      have h2 : x &&& mu ≤ x := Nat.and_le_left
      omega)
  rw [show mu + (2 ^ G.length - mu) = 2 ^ G.length by omega, Nat.zero_add] at this
  exact this.symm

end Go.Proofs.Ytcbhhbkghbnljaa.Vf
