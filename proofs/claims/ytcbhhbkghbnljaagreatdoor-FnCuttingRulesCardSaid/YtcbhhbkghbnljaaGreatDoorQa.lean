/- What tasks, states, plays and waits give, plainly. Conditions: as each theorem states. My own. -/
import Derived.Test.YtcbhhbkghbnljaaGreatDoorFa
set_option linter.unusedVariables false
set_option linter.unusedSimpArgs false
namespace Go.Proofs.YtcbhhbkghbnljaaGreatDoor.Vf
open Go Go.V Go.RowKit
theorem w64 {x : Int} (h : -9223372036854775808 ≤ x) (h2 : x ≤ 9223372036854775807) : wrap64 x = x := by unfold wrap64; omega
theorem w64n {i : Nat} (h : i ≤ 9223372036854775806) : wrap64 ((i : Int) + 1) = ((i + 1 : Nat) : Int) := by rw [w64 (by omega) (by omega)]; omega
theorem rd_nat (l : List Int) (i : Nat) : rd l (i : Int) = l.getD i 0 := by unfold rd; rw [Int.toNat_natCast]
theorem rd_lt {l : List Int} {i : Nat} (h : i < l.length) : rd l (i : Int) = l[i] := by rw [rd_nat, List.getD_eq_getElem?_getD, List.getElem?_eq_getElem h, Option.getD_some]
theorem rdOf_nat {α : Type} (d : α) (l : List α) (i : Nat) : rdOf d l (i : Int) = l.getD i d := by unfold rdOf; rw [Int.toNat_natCast]
theorem rdOf_lt {α : Type} {d : α} {l : List α} {i : Nat} (h : i < l.length) : rdOf d l (i : Int) = l[i] := by rw [rdOf_nat, List.getD_eq_getElem?_getD, List.getElem?_eq_getElem h, Option.getD_some]
theorem rd_mem {l : List Int} {i : Nat} (h : i < l.length) : rd l (i : Int) ∈ l := by rw [rd_lt h]; exact List.getElem_mem h
theorem drop_cons {l : List Int} {i : Nat} (h : i < l.length) : l.drop i = rd l (i : Int) :: l.drop (i + 1) := by rw [rd_lt h]; exact List.drop_eq_getElem_cons h
def I64 (x : Int) : Prop := -9223372036854775808 ≤ x ∧ x ≤ 9223372036854775807
theorem I64.of_wf {x : Int} (h : (Lit.int .i64 x).wf = true) : I64 x := by
  simp only [Lit.wf, Bool.and_eq_true, decide_eq_true_eq] at h
  exact ⟨by have := h.1; simpa [IntKind.min, IntKind.signed, IntKind.bits] using this, by have := h.2; simpa [IntKind.max, IntKind.signed, IntKind.bits] using this⟩
theorem maxLen_eq : maxLen = 9223372036854775807 := by decide
theorem set_step (l : List Int) (i : Nat) (h : i < l.length) : (l.take i ++ List.replicate (l.length - i) 0).set i (rd l i) = l.take (i + 1) ++ List.replicate (l.length - (i + 1)) 0 := by
  rw [rd_lt h, List.set_append_right _ _ (by simp; omega)]
  rw [show i - (List.take i l).length = 0 from by simp; omega]
  rw [show l.length - i = (l.length - (i + 1)) + 1 by omega, List.replicate_succ, List.set_cons_zero, List.take_succ_eq_append_getElem h, List.append_assoc]
  rfl
theorem idx_run {γ : Type} {L : Nat → List Int → γ → Int → Int → Option Int} {p : Int → Bool} {l : List Int} {c : γ}
    (hs : ∀ n (i : Nat), i < l.length → L (n + 1) l c l.length i = if p (rd l i) = true then some (i : Int) else L n l c l.length ((i + 1 : Nat) : Int)) (he : ∀ n, L (n + 1) l c l.length l.length = some (-1)) :
    ∀ (d i n : Nat), l.length - i = d → i ≤ l.length → d < n → ∃ j : Int, L n l c l.length i = some j ∧ ((0 ≤ j) ↔ ∃ x ∈ l.drop i, p x = true) := by
  intro d
  induction d with
  | zero =>
    intro i n hd hi hn
    obtain rfl : i = l.length := by omega
    cases n with
    | zero => omega
    | succ n => exact ⟨-1, he n, by simp⟩
  | succ d ih =>
    intro i n hd hi hn
    cases n with
    | zero => omega
    | succ n =>
      rw [hs n i (by omega), drop_cons (by omega)]
      by_cases hp : p (rd l i) = true
      · rw [if_pos hp]
        exact ⟨i, rfl, by simp [hp]⟩
      · rw [if_neg hp]
        obtain ⟨j, h1, h2⟩ := ih (i + 1) n (by omega) (by omega) (by omega)
        exact ⟨j, h1, by rw [h2]; simp [hp]⟩
theorem all_iff {l : List Int} {p q : Int → Bool} (h : ∀ x, p x = !q x) {j : Int} (hj : (0 ≤ j) ↔ ∃ x ∈ l, p x = true) : (!decide (decide (0 ≤ j) = true)) = l.all q := by
  rw [Bool.eq_iff_iff]
  simp only [Bool.not_eq_true', decide_eq_false_iff_not, decide_eq_true_eq, List.all_eq_true]
  rw [hj]
  constructor
  · intro hn x hx
    cases hq : q x with
    | true => rfl
    | false => exact absurd ⟨x, hx, by rw [h, hq]; rfl⟩ hn
  · rintro hall ⟨x, hx, hp⟩
    rw [h, hall x hx] at hp
    cases hp
theorem l01In_f (a b c : Int) : spec_l01In.f a b c = some (decide (b ≤ a ∧ a ≤ c)) := by
  unfold spec_l01In.f
  by_cases h : b ≤ a <;> simp [h]
theorem within_f (a b c : Int) : impl_within.f a b c = some (decide (b ≤ a ∧ a ≤ c)) := by
  unfold impl_within.f
  by_cases h : b ≤ a <;> simp [h]
theorem length_f (l : List Int) : impl_length_int64.f l = some (l.length : Int) := rfl
theorem many_f (l : List Int) : impl_Tasks_many.f l = some (l.length : Int) := rfl
theorem l01K_f (l : List Int) : spec_l01K.f l = some (l.length : Int) := rfl
def gapB (g : Int) : Bool := decide (1 ≤ g ∧ g ≤ 40)
def isT (l : List Int) : Bool := decide (1 ≤ l.length ∧ l.length ≤ 8) && l.all gapB
theorem isT_iff {l : List Int} : isT l = true ↔ (1 ≤ l.length ∧ l.length ≤ 8) ∧ ∀ g ∈ l, 1 ≤ g ∧ g ≤ 40 := by
  unfold isT gapB
  simp [List.all_eq_true]
theorem areAll_tasks {k : Nat} {l : List Int} (hk : 2097152 ≤ k) (hl : l.length ≤ 1048576) : impl_areAll_int64_impl_IsTasks_1.f k l () = some (l.all gapB) := by
  obtain ⟨j, h1, h2⟩ := idx_run (L := slices_IndexFunc_int64_int64_impl_areAll_int64_1_impl_IsTasks_1.l0 k) (p := fun x => !gapB x) (l := l) (c := ())
    (fun n i hi => by
      simp only [slices_IndexFunc_int64_int64_impl_areAll_int64_1_impl_IsTasks_1.l0, slices_IndexFunc_int64_int64_impl_areAll_int64_1_impl_IsTasks_1.s0]
      rw [if_pos (by omega), if_pos (by omega), if_pos (by omega)]
      simp only [impl_areAll_int64_1_impl_IsTasks_1.f, impl_IsTasks_1.f, within_f, Option.bind_some, gapB, w64n (show i ≤ 9223372036854775806 by omega)]
      by_cases h : 1 ≤ rd l i ∧ rd l i ≤ 40 <;> simp [h])
    (fun n => by
      simp only [slices_IndexFunc_int64_int64_impl_areAll_int64_1_impl_IsTasks_1.l0, slices_IndexFunc_int64_int64_impl_areAll_int64_1_impl_IsTasks_1.s0]
      rw [if_neg (by omega)]) l.length 0 k (by omega) (by omega) (by omega)
  unfold impl_areAll_int64_impl_IsTasks_1.f slices_ContainsFunc_int64_int64_impl_areAll_int64_1_impl_IsTasks_1.f slices_IndexFunc_int64_int64_impl_areAll_int64_1_impl_IsTasks_1.f slices_IndexFunc_int64_int64_impl_areAll_int64_1_impl_IsTasks_1.g
  rw [show slices_IndexFunc_int64_int64_impl_areAll_int64_1_impl_IsTasks_1.l0 k k l () l.length 0 = some j from h1, Option.bind_some, Option.bind_some]
  rw [List.drop_zero] at h2
  congr 1
  exact all_iff (p := fun x => !gapB x) (fun _ => rfl) h2
theorem isTasks_f {k : Nat} {l : List Int} (hk : 2097152 ≤ k) (hl : l.length ≤ 1048576) : impl_IsTasks.f k l = some (isT l) := by
  unfold impl_IsTasks.f
  simp only [length_f, within_f, Option.bind_some, areAll_tasks hk hl]
  unfold isT
  by_cases h : 1 ≤ l.length ∧ l.length ≤ 8
  · rw [if_pos (by simp; omega)]; simp [h]
  · rw [if_neg (by simp; omega)]; simp [h]
theorem tasksCode_f {k : Nat} {l : List Int} (hk : 2097152 ≤ k) (hl : l.length ≤ 1048576) (b : Bool) : impl_tasksCode.f k l b = some (if isT l then (if b then 0 else 2) else 1) := by
  unfold impl_tasksCode.f
  rw [isTasks_f hk hl, Option.bind_some]
  cases isT l <;> cases b <;> rfl
def Gp (G : List Int) : Prop := ∀ g ∈ G, 1 ≤ g ∧ g ≤ 40
theorem Gp.tail {g : Int} {G : List Int} (h : Gp (g :: G)) : Gp G := fun x hx => h x (by simp [hx])
theorem Gp.head {g : Int} {G : List Int} (h : Gp (g :: G)) : 1 ≤ g ∧ g ≤ 40 := h g (by simp)
def cnt : List Int → Int
  | [] => 1
  | g :: G => g * cnt G
theorem cnt_pos : ∀ {G : List Int}, Gp G → 1 ≤ cnt G
  | [], _ => by simp [cnt]
  | g :: G, h => by
    have h1 := cnt_pos h.tail
    have h2 := h.head
    simp only [cnt]
    exact Int.le_trans h2.1 (by have := Int.mul_le_mul_of_nonneg_left h1 (show (0:Int) ≤ g by omega); simpa using this)
theorem cnt_le : ∀ {G : List Int}, Gp G → cnt G ≤ 40 ^ G.length
  | [], _ => by simp [cnt]
  | g :: G, h => by
    have h1 := cnt_le h.tail
    have h2 := h.head
    have h3 := cnt_pos h.tail
    simp only [cnt, List.length_cons, Int.pow_succ]
    rw [Int.mul_comm ((40:Int) ^ G.length)]
    exact Int.mul_le_mul h2.2 h1 (by omega) (by omega)
theorem pow40_le {n : Nat} (h : n ≤ 8) : (40 : Int) ^ n ≤ 6553600000000 := by
  have : n = 0 ∨ n = 1 ∨ n = 2 ∨ n = 3 ∨ n = 4 ∨ n = 5 ∨ n = 6 ∨ n = 7 ∨ n = 8 := by omega
  rcases this with rfl | rfl | rfl | rfl | rfl | rfl | rfl | rfl | rfl <;> decide
theorem cnt_small {G : List Int} (h : Gp G) (hl : G.length ≤ 8) : cnt G ≤ 6553600000000 := Int.le_trans (cnt_le h) (pow40_le hl)
theorem cnt_drop : ∀ {G : List Int} (i : Nat), Gp G → Gp (G.drop i)
  | G, i, h => fun x hx => h x (List.mem_of_mem_drop hx)
def numA : Int → List Int → List Int → Int
  | a, g :: G, s :: S => numA (a * g + s - 1) G S
  | a, _, _ => a
def num (G S : List Int) : Int := numA 0 G S
def Stt : List Int → List Int → Prop
  | [], [] => True
  | g :: G, s :: S => (1 ≤ s ∧ s ≤ g) ∧ Stt G S
  | _, _ => False
theorem Stt.length : ∀ {G S : List Int}, Stt G S → S.length = G.length
  | [], [], _ => rfl
  | g :: G, s :: S, h => by simp [Stt.length h.2]
  | [], _ :: _, h => h.elim
  | _ :: _, [], h => h.elim
theorem numA_eq : ∀ {G S : List Int} (a : Int), S.length = G.length → numA a G S = a * cnt G + numA 0 G S
  | [], [], a, _ => by simp [numA, cnt]
  | g :: G, s :: S, a, h => by
    have hl : S.length = G.length := by simpa using h
    simp only [numA, cnt]
    rw [numA_eq (a * g + s - 1) hl, numA_eq (0 * g + s - 1) hl]
    simp only [Int.add_mul, Int.sub_mul, Int.mul_assoc, Int.zero_mul, Int.one_mul]
    omega
  | [], _ :: _, _, h => by simp at h
  | _ :: _, [], _, h => by simp at h
theorem num_bnd : ∀ {G S : List Int}, Gp G → Stt G S → 0 ≤ num G S ∧ num G S < cnt G
  | [], [], _, _ => by simp [num, numA, cnt]
  | g :: G, s :: S, hG, h => by
    obtain ⟨h1, h2⟩ := num_bnd hG.tail h.2
    have hl := h.2.length
    unfold num at *
    simp only [numA, cnt]
    rw [numA_eq _ hl]
    have h3 := cnt_pos hG.tail
    have h4 : (0 * g + s - 1) * cnt G ≤ (g - 1) * cnt G := Int.mul_le_mul_of_nonneg_right (by have := h.1.2; omega) (by omega)
    have h5 : 0 ≤ (0 * g + s - 1) * cnt G := Int.mul_nonneg (by have := h.1.1; omega) (by omega)
    have h6 : (g - 1) * cnt G = g * cnt G - cnt G := by rw [Int.sub_mul, Int.one_mul]
    omega
  | [], _ :: _, _, h => h.elim
  | _ :: _, [], _, h => h.elim
def ofA : List Int → Int → List Int × Int
  | [], n => ([], n)
  | g :: G, n => (((ofA G n).2 % g + 1) :: (ofA G n).1, (ofA G n).2 / g)
def ofN (G : List Int) (n : Int) : List Int := (ofA G n).1
theorem ofA_len : ∀ (G : List Int) (n : Int), (ofA G n).1.length = G.length
  | [], _ => rfl
  | g :: G, n => by simp [ofA, ofA_len G n]
theorem ofN_len (G : List Int) (n : Int) : (ofN G n).length = G.length := ofA_len G n
theorem ofN_st : ∀ {G : List Int} (n : Int), Gp G → Stt G (ofN G n)
  | [], n, _ => trivial
  | g :: G, n, h => by
    have hg := h.head
    refine ⟨?_, ofN_st n h.tail⟩
    have := Int.emod_nonneg (ofA G n).2 (show g ≠ 0 by omega)
    have := Int.emod_lt_of_pos (ofA G n).2 (show 0 < g by omega)
    omega
theorem ofA_snd : ∀ {G : List Int} (n : Int), Gp G → (ofA G n).2 = n / cnt G
  | [], n, _ => by simp [ofA, cnt]
  | g :: G, n, h => by
    simp only [ofA, cnt]
    rw [ofA_snd n h.tail, Int.ediv_ediv_of_nonneg (by have := cnt_pos h.tail; omega), Int.mul_comm]
theorem num_ofA : ∀ {G : List Int} (n : Int), Gp G → num G (ofN G n) = n % cnt G
  | [], n, _ => by simp [num, numA, ofN, ofA, cnt]
  | g :: G, n, h => by
    have ih := num_ofA n h.tail
    have hl := ofN_len G n
    have hp := cnt_pos h.tail
    unfold num ofN at *
    simp only [numA, ofA, cnt]
    rw [numA_eq _ hl, ih, ofA_snd n h.tail]
    have e1 : (0 * g + (n / cnt G % g + 1) - 1) = n / cnt G % g := by omega
    rw [e1]
    have h1 := Int.emod_add_mul_ediv n (cnt G)
    have h2 := Int.emod_add_mul_ediv (n / cnt G) g
    have h3 := Int.emod_add_mul_ediv n (g * cnt G)
    have h4 : n / (g * cnt G) = n / cnt G / g := by rw [Int.ediv_ediv_of_nonneg (by omega), Int.mul_comm]
    rw [h4] at h3
    have h5 : g * cnt G * (n / cnt G / g) = g * (n / cnt G / g) * cnt G := by rw [Int.mul_assoc, Int.mul_comm (cnt G), ← Int.mul_assoc]
    have h6 : cnt G * (n / cnt G) = (n / cnt G) * cnt G := Int.mul_comm _ _
    rw [h5] at h3
    have h7 : (n / cnt G) * cnt G = (n / cnt G % g) * cnt G + g * (n / cnt G / g) * cnt G := by rw [← Int.add_mul, h2]
    omega
theorem num_ofN {G : List Int} {n : Int} (h : Gp G) (h0 : 0 ≤ n) (h1 : n < cnt G) : num G (ofN G n) = n := by
  rw [num_ofA n h, Int.emod_eq_of_lt h0 h1]
theorem st_eq : ∀ {G S S' : List Int}, Gp G → Stt G S → Stt G S' → num G S = num G S' → S = S'
  | [], [], [], _, _, _, _ => rfl
  | g :: G, s :: S, s' :: S', hG, h, h', e => by
    have hp := cnt_pos hG.tail
    obtain ⟨a1, a2⟩ := num_bnd hG.tail h.2
    obtain ⟨b1, b2⟩ := num_bnd hG.tail h'.2
    unfold num at *
    simp only [numA] at e
    rw [numA_eq _ h.2.length, numA_eq _ h'.2.length] at e
    have hs : s = s' := by
      rcases Int.lt_trichotomy s s' with hlt | rfl | hlt
      · exfalso
        have : (0 * g + s - 1 + 1) * cnt G ≤ (0 * g + s' - 1) * cnt G := Int.mul_le_mul_of_nonneg_right (by omega) (by omega)
        rw [Int.add_mul, Int.one_mul] at this
        omega
      · rfl
      · exfalso
        have : (0 * g + s' - 1 + 1) * cnt G ≤ (0 * g + s - 1) * cnt G := Int.mul_le_mul_of_nonneg_right (by omega) (by omega)
        rw [Int.add_mul, Int.one_mul] at this
        omega
    subst hs
    rw [st_eq hG.tail h.2 h'.2 (by unfold num; omega)]
  | [], _ :: _, _, _, h, _, _ => h.elim
  | [], [], _ :: _, _, _, h, _ => h.elim
  | _ :: _, [], _, _, h, _, _ => h.elim
  | _ :: _, _ :: _, [], _, _, h, _ => h.elim
theorem ofN_num {G S : List Int} (h : Gp G) (hs : Stt G S) : ofN G (num G S) = S :=
  st_eq h (ofN_st _ h) hs (num_ofN h (num_bnd h hs).1 (num_bnd h hs).2)
def stepA (c : Int) : Int → List Int → List Int → Option (List Int)
  | j, g :: G, x :: S => if j = c then (stepA c (j + 1) G S).map (g :: ·) else if x < 2 then none else (stepA c (j + 1) G S).map ((x - 1) :: ·)
  | _, _, _ => some []
def step (G S : List Int) (c : Int) : Option (List Int) := stepA c 0 G S
theorem stepA_st {c : Int} : ∀ {j : Int} {G S T : List Int}, Gp G → Stt G S → stepA c j G S = some T → Stt G T
  | j, [], [], T, _, _, h => by simp [stepA] at h; subst h; trivial
  | j, g :: G, x :: S, T, hG, hs, h => by
    simp only [stepA] at h
    split at h
    · obtain ⟨T', h1, rfl⟩ := Option.map_eq_some_iff.1 h
      exact ⟨⟨(hG.head).1, Int.le_refl _⟩, stepA_st hG.tail hs.2 h1⟩
    · split at h
      · cases h
      · obtain ⟨T', h1, rfl⟩ := Option.map_eq_some_iff.1 h
        have := hs.1
        exact ⟨by omega, stepA_st hG.tail hs.2 h1⟩
  | j, [], _ :: _, _, _, h, _ => h.elim
  | j, _ :: _, [], _, _, h, _ => h.elim
theorem step_st {G S T : List Int} {c : Int} (hG : Gp G) (hs : Stt G S) (h : step G S c = some T) : Stt G T := stepA_st hG hs h
def chs (m : Nat) : List Int := (List.range (m + 1)).map fun i : Nat => (i : Int) - 1
def goodC (G : List Int) (L : List Bool) (n : Int) (c : Int) : Bool :=
  match step G (ofN G n) c with
  | some T => L.getD (num G T).toNat false
  | none => false
def keep (G : List Int) (L : List Bool) (n : Int) : List Int := (chs G.length).filter (goodC G L n)
def swp (good : List Bool → Nat → Bool) : Nat → Nat → List Bool → Bool → List Bool × Bool
  | 0, _, L, ch => (L, ch)
  | d + 1, i, L, ch => if L.getD i false = true then (if good L i = true then swp good d (i + 1) L ch else swp good d (i + 1) (L.set i false) true) else swp good d (i + 1) L ch
def fixO (good : List Bool → Nat → Bool) : Nat → List Bool → Bool → Option (List Bool)
  | 0, _, _ => none
  | n + 1, L, ch => match ch with
    | true => fixO good n (swp good L.length 0 L false).1 (swp good L.length 0 L false).2
    | false => some L
theorem swp_len (good : List Bool → Nat → Bool) : ∀ (d i : Nat) (L : List Bool) (ch : Bool), (swp good d i L ch).1.length = L.length
  | 0, _, _, _ => rfl
  | d + 1, i, L, ch => by
    simp only [swp]
    split
    · split
      · exact swp_len good d _ _ _
      · rw [swp_len good d]; simp
    · exact swp_len good d _ _ _
def trues (L : List Bool) : Nat := (L.filter (· = true)).length
theorem trues_set : ∀ {L : List Bool} {i : Nat}, L.getD i false = true → trues (L.set i false) + 1 = trues L
  | [], i, h => by simp at h
  | b :: L, 0, h => by
    have : b = true := by simpa using h
    subst this
    simp [trues]
  | b :: L, i + 1, h => by
    have ih := trues_set (L := L) (i := i) (by simpa using h)
    unfold trues at *
    cases b <;> simp [List.filter_cons] at * <;> omega
theorem swp_less (good : List Bool → Nat → Bool) : ∀ (d i : Nat) (L : List Bool) (ch : Bool), trues (swp good d i L ch).1 ≤ trues L ∧ ((swp good d i L ch).2 = true → ch = true ∨ trues (swp good d i L ch).1 < trues L)
  | 0, _, _, _ => ⟨Nat.le_refl _, fun h => .inl h⟩
  | d + 1, i, L, ch => by
    simp only [swp]
    split
    · rename_i h1
      split
      · exact swp_less good d _ _ _
      · have := swp_less good d (i + 1) (L.set i false) true
        have h3 := trues_set h1
        exact ⟨by omega, fun _ => .inr (by omega)⟩
    · exact swp_less good d _ _ _
theorem fix_some (good : List Bool → Nat → Bool) : ∀ (n : Nat) (L : List Bool) (ch : Bool), trues L + 1 < n → ∃ L', fixO good n L ch = some L' ∧ L'.length = L.length
  | 0, L, ch, h => by omega
  | n + 1, L, ch, h => by
    cases ch with
    | false => exact ⟨L, rfl, rfl⟩
    | true =>
      simp only [fixO]
      obtain ⟨h1, h2⟩ := swp_less good L.length 0 L false
      cases hc : (swp good L.length 0 L false).2 with
      | false =>
        cases n with
        | zero => omega
        | succ n => exact ⟨_, rfl, swp_len _ _ _ _ _⟩
      | true =>
        rcases h2 hc with h3 | h3
        · cases h3
        · obtain ⟨L', h4, h5⟩ := fix_some good n (swp good L.length 0 L false).1 true (by omega)
          exact ⟨L', h4, h5.trans (swp_len _ _ _ _ _)⟩
theorem trues_le (L : List Bool) : trues L ≤ L.length := List.length_filter_le _ _
theorem swp_congr {good good' : List Bool → Nat → Bool} {m : Nat} (h : ∀ L i, L.length = m → good L i = good' L i) : ∀ (d i : Nat) (L : List Bool) (ch : Bool), L.length = m → swp good d i L ch = swp good' d i L ch
  | 0, _, _, _, _ => rfl
  | d + 1, i, L, ch, hl => by
    simp only [swp, h L i hl]
    rw [swp_congr h d (i + 1) L ch hl, swp_congr h d (i + 1) (L.set i false) true (by simpa using hl)]
def lasting (G : List Int) : List Bool := (fixO (fun L i => (keep G L i) != []) 4003 (List.replicate (cnt G).toNat true) true).getD []
theorem isT_gp {G : List Int} (h : isT G = true) : Gp G := (isT_iff.1 h).2
theorem isT_len {G : List Int} (h : isT G = true) : 1 ≤ G.length ∧ G.length ≤ 8 := (isT_iff.1 h).1
theorem mul_bnd {a g c B : Int} (ha : 1 ≤ a) (hg : 1 ≤ g) (hc : 1 ≤ c) (h : a * (g * c) ≤ B) : 1 ≤ a * g ∧ a * g ≤ B := by
  have h1 : 1 ≤ a * g := by have := Int.mul_le_mul ha hg (by omega) (by omega); simpa using this
  refine ⟨h1, Int.le_trans ?_ h⟩
  rw [← Int.mul_assoc]
  have := Int.mul_le_mul_of_nonneg_left hc (show (0:Int) ≤ a * g by omega)
  simpa using this
theorem l02Count_loop {k : Nat} {G : List Int} (hG : Gp G) (hl : G.length ≤ 8) : ∀ (d i n : Nat) (a : Int), G.length - i = d → i ≤ G.length → d < n → 1 ≤ a → a * cnt (G.drop i) ≤ 6553600000000 →
    spec_l02Count.l0 k n G a i = some (a * cnt (G.drop i)) := by
  intro d
  induction d with
  | zero =>
    intro i n a hd hi hn ha hb
    obtain rfl : i = G.length := by omega
    cases n with
    | zero => omega
    | succ n =>
      simp only [spec_l02Count.l0, spec_l02Count.s0]
      rw [if_neg (by omega), List.drop_length]
      simp [cnt]
  | succ d ih =>
    intro i n a hd hi hn ha hb
    cases n with
    | zero => omega
    | succ n =>
      simp only [spec_l02Count.l0, spec_l02Count.s0]
      rw [drop_cons (by omega)] at hb ⊢
      simp only [cnt] at hb ⊢
      have hg := hG _ (rd_mem (l := G) (i := i) (by omega))
      have hc := cnt_pos (cnt_drop (i + 1) hG)
      obtain ⟨h1, h2⟩ := mul_bnd ha hg.1 hc hb
      rw [if_pos (by omega), if_pos (by omega), if_pos (by omega), w64 (by omega) (by omega), w64n (by omega), ih (i + 1) n _ (by omega) (by omega) (by omega) h1 (by rw [Int.mul_assoc]; exact hb), Int.mul_assoc]
theorem l02Count_f {k : Nat} {G : List Int} (hk : 2097152 ≤ k) (h : isT G = true) : spec_l02Count.f k G = some (cnt G) := by
  unfold spec_l02Count.f spec_l02Count.g
  have hc := cnt_small (isT_gp h) (isT_len h).2
  have := isT_len h
  have := l02Count_loop (k := k) (isT_gp h) (isT_len h).2 G.length 0 k 1 (by omega) (by omega) (by omega) (by omega) (by rw [List.drop_zero]; omega)
  exact this.trans (by rw [List.drop_zero, Int.one_mul])
theorem states_loop {k : Nat} {G : List Int} (hG : Gp G) (hl : G.length ≤ 8) : ∀ (d i n : Nat) (a : Int), G.length - i = d → i ≤ G.length → d < n → 1 ≤ a → a * cnt (G.drop i) ≤ 6553600000000 →
    impl_Tasks_states.l0 k n a G G.length i = some (a * cnt (G.drop i)) := by
  intro d
  induction d with
  | zero =>
    intro i n a hd hi hn ha hb
    obtain rfl : i = G.length := by omega
    cases n with
    | zero => omega
    | succ n =>
      simp only [impl_Tasks_states.l0, impl_Tasks_states.s0]
      rw [if_neg (by omega), List.drop_length]
      simp [cnt]
  | succ d ih =>
    intro i n a hd hi hn ha hb
    cases n with
    | zero => omega
    | succ n =>
      simp only [impl_Tasks_states.l0, impl_Tasks_states.s0]
      rw [drop_cons (by omega)] at hb ⊢
      simp only [cnt] at hb ⊢
      have hg := hG _ (rd_mem (l := G) (i := i) (by omega))
      have hc := cnt_pos (cnt_drop (i + 1) hG)
      obtain ⟨h1, h2⟩ := mul_bnd ha hg.1 hc hb
      rw [if_pos (by omega), if_pos (by omega), if_pos (by omega), w64 (by omega) (by omega), w64n (by omega), ih (i + 1) n _ (by omega) (by omega) (by omega) h1 (by rw [Int.mul_assoc]; exact hb), Int.mul_assoc]
theorem states_f {k : Nat} {G : List Int} (hk : 2097152 ≤ k) (h : isT G = true) : impl_Tasks_states.f k G = some (cnt G) := by
  unfold impl_Tasks_states.f impl_Tasks_states.g
  have hc := cnt_small (isT_gp h) (isT_len h).2
  have := isT_len h
  have := states_loop (k := k) (isT_gp h) (isT_len h).2 G.length 0 k 1 (by omega) (by omega) (by omega) (by omega) (by rw [List.drop_zero]; omega)
  exact this.trans (by rw [List.drop_zero, Int.one_mul])
theorem statesCode_f {k : Nat} {G : List Int} (hk : 2097152 ≤ k) (hl : G.length ≤ 1048576) (b : Bool) : impl_statesCode.f k G b = some (if isT G then (if b then (if 4000 < cnt G then 3 else 0) else 2) else 1) := by
  unfold impl_statesCode.f
  rw [tasksCode_f hk hl, Option.bind_some]
  cases h : isT G with
  | false => rfl
  | true =>
    cases b with
    | false => rfl
    | true =>
      simp only [if_true]
      rw [states_f hk h, Option.bind_some]
      split <;> rfl
theorem stt_at : ∀ {G S : List Int} {i : Nat}, Stt G S → i < G.length → 1 ≤ rd S i ∧ rd S i ≤ rd G i
  | g :: G, s :: S, 0, h, _ => by simpa [rd] using h.1
  | g :: G, s :: S, i + 1, h, hi => by
    have := stt_at (i := i) h.2 (by simpa using hi)
    rw [rd_nat, rd_nat] at this ⊢
    simpa using this
  | [], [], _, _, hi => by simp at hi
  | [], _ :: _, _, h, _ => h.elim
  | _ :: _, [], _, h, _ => h.elim
theorem num_next {a g s c B : Int} (ha : 0 ≤ a) (h1 : 1 ≤ s) (h2 : s ≤ g) (hc : 1 ≤ c) (h : (a + 1) * (g * c) ≤ B) : 0 ≤ a * g ∧ a * g + s ≤ B + 1 ∧ 0 ≤ a * g + s - 1 ∧ (a * g + s - 1 + 1) * c ≤ B := by
  have h3 : 0 ≤ a * g := Int.mul_nonneg ha (by omega)
  have h4 : (a * g + s - 1 + 1) * c ≤ (a + 1) * (g * c) := by
    rw [← Int.mul_assoc]
    refine Int.mul_le_mul_of_nonneg_right ?_ (by omega)
    rw [Int.add_mul, Int.one_mul]; omega
  have h5 : (a * g + s - 1 + 1) * 1 ≤ (a * g + s - 1 + 1) * c := Int.mul_le_mul_of_nonneg_left hc (by omega)
  omega
theorem l02Number_loop {k : Nat} {G S : List Int} (hG : Gp G) (hl : G.length ≤ 8) (hs : Stt G S) : ∀ (d i n : Nat) (a : Int), G.length - i = d → i ≤ G.length → d < n → 0 ≤ a → (a + 1) * cnt (G.drop i) ≤ 6553600000000 →
    spec_l02Number.l0 k n S G a i = some (numA a (G.drop i) (S.drop i)) := by
  have hsl := hs.length
  intro d
  induction d with
  | zero =>
    intro i n a hd hi hn ha hb
    obtain rfl : i = G.length := by omega
    cases n with
    | zero => omega
    | succ n =>
      simp only [spec_l02Number.l0, spec_l02Number.s0]
      rw [if_neg (by omega), List.drop_length]
      simp [numA]
  | succ d ih =>
    intro i n a hd hi hn ha hb
    cases n with
    | zero => omega
    | succ n =>
      simp only [spec_l02Number.l0, spec_l02Number.s0]
      rw [drop_cons (l := G) (by omega)] at hb ⊢
      rw [drop_cons (l := S) (by omega)]
      simp only [cnt, numA] at hb ⊢
      have hg := hG _ (rd_mem (l := G) (i := i) (by omega))
      have hc := cnt_pos (cnt_drop (i + 1) hG)
      obtain ⟨e1, e2⟩ := stt_at (i := i) hs (by omega)
      obtain ⟨q1, q2, q3, q4⟩ := num_next ha e1 e2 hc hb
      rw [if_pos (by omega), if_pos (by omega), if_pos (by omega), if_pos (by omega), if_pos (by omega), w64 (x := a * rd G i) (by omega) (by omega), w64 (x := a * rd G i + rd S i) (by omega) (by omega), w64 (by omega) (by omega), w64n (by omega),
        ih (i + 1) n _ (by omega) (by omega) (by omega) q3 q4]
theorem l02Number_f {k : Nat} {G S : List Int} (hk : 2097152 ≤ k) (h : isT G = true) (hs : Stt G S) : spec_l02Number.f k G S = some (num G S) := by
  unfold spec_l02Number.f spec_l02Number.g
  have hc := cnt_small (isT_gp h) (isT_len h).2
  have := isT_len h
  have := l02Number_loop (k := k) (isT_gp h) (isT_len h).2 hs G.length 0 k 0 (by omega) (by omega) (by omega) (by omega) (by rw [List.drop_zero]; omega)
  exact this
theorem number_loop {k : Nat} {G S : List Int} (hG : Gp G) (hl : G.length ≤ 8) (hs : Stt G S) : ∀ (d i n : Nat) (a : Int), G.length - i = d → i ≤ G.length → d < n → 0 ≤ a → (a + 1) * cnt (G.drop i) ≤ 6553600000000 →
    impl_Tasks_number.l0 k n G a S S.length i = some (numA a (G.drop i) (S.drop i)) := by
  have hsl := hs.length
  intro d
  induction d with
  | zero =>
    intro i n a hd hi hn ha hb
    obtain rfl : i = G.length := by omega
    cases n with
    | zero => omega
    | succ n =>
      simp only [impl_Tasks_number.l0, impl_Tasks_number.s0]
      rw [if_neg (by omega), List.drop_length]
      simp [numA]
  | succ d ih =>
    intro i n a hd hi hn ha hb
    cases n with
    | zero => omega
    | succ n =>
      simp only [impl_Tasks_number.l0, impl_Tasks_number.s0]
      rw [drop_cons (l := G) (by omega)] at hb ⊢
      rw [drop_cons (l := S) (by omega)]
      simp only [cnt, numA] at hb ⊢
      have hg := hG _ (rd_mem (l := G) (i := i) (by omega))
      have hc := cnt_pos (cnt_drop (i + 1) hG)
      obtain ⟨e1, e2⟩ := stt_at (i := i) hs (by omega)
      obtain ⟨q1, q2, q3, q4⟩ := num_next ha e1 e2 hc hb
      rw [if_pos (by omega), if_pos (by omega), if_pos (by omega), if_pos (by omega), if_pos (by omega), w64 (x := a * rd G i) (by omega) (by omega), w64 (x := a * rd G i + rd S i) (by omega) (by omega), w64 (by omega) (by omega), w64n (by omega),
        ih (i + 1) n _ (by omega) (by omega) (by omega) q3 q4]
theorem number_f {k : Nat} {G S : List Int} (hk : 2097152 ≤ k) (h : isT G = true) (hs : Stt G S) : impl_Tasks_number.f k G S = some (num G S) := by
  unfold impl_Tasks_number.f impl_Tasks_number.g
  have hc := cnt_small (isT_gp h) (isT_len h).2
  have := isT_len h
  have := number_loop (k := k) (isT_gp h) (isT_len h).2 hs G.length 0 k 0 (by omega) (by omega) (by omega) (by omega) (by rw [List.drop_zero]; omega)
  exact this
theorem ofA_nonneg : ∀ {G : List Int} {n : Int}, Gp G → 0 ≤ n → 0 ≤ (ofA G n).2 := by
  intro G n h hn
  rw [ofA_snd n h]
  exact Int.ediv_nonneg hn (by have := cnt_pos h; omega)
theorem ofA_le {G : List Int} {n : Int} (h : Gp G) (hn : 0 ≤ n) : (ofA G n).2 ≤ n := by
  rw [ofA_snd n h]
  exact Int.ediv_le_self _ hn
theorem set_rep (m : Nat) (x : Int) (done : List Int) : (List.replicate (m + 1) 0 ++ done).set m x = List.replicate m 0 ++ x :: done := by
  rw [List.replicate_succ', List.append_assoc, List.set_append_right _ _ (by simp)]
  simp
theorem l02Of_loop {k : Nat} {G : List Int} {v : Int} (hG : Gp G) (hl : G.length ≤ 8) (hv : 0 ≤ v) (hv2 : v ≤ 6553600000000) : ∀ (m n : Nat), m ≤ G.length → m < n →
    spec_l02Of.l0 k n (ofA (G.drop m) v).2 G (List.replicate m 0 ++ (ofA (G.drop m) v).1) ((m : Int) - 1) = some (ofN G v) := by
  intro m
  induction m with
  | zero =>
    intro n hm hn
    cases n with
    | zero => omega
    | succ n =>
      simp only [spec_l02Of.l0, spec_l02Of.s0]
      rw [if_neg (by omega), List.drop_zero]
      rfl
  | succ m ih =>
    intro n hm hn
    cases n with
    | zero => omega
    | succ n =>
      have hi : (((m + 1 : Nat) : Int) - 1) = (m : Int) := by omega
      have hg := hG _ (rd_mem (l := G) (i := m) (by omega))
      have hGd := cnt_drop (m + 1) hG
      have h1 := ofA_nonneg hGd hv
      have h2 := ofA_le hGd hv
      have hlen := ofA_len (G.drop (m + 1)) v
      rw [hi]
      simp only [spec_l02Of.l0, spec_l02Of.s0]
      rw [if_pos (by omega), if_pos (by omega), if_pos (by omega), if_neg (by omega), if_pos (by omega), if_pos (by simp; omega), if_pos (by omega), if_pos (by omega), if_neg (by omega)]
      have hd : ofA (G.drop m) v = (((ofA (G.drop (m + 1)) v).2 % rd G m + 1) :: (ofA (G.drop (m + 1)) v).1, (ofA (G.drop (m + 1)) v).2 / rd G m) := by
        rw [drop_cons (l := G) (i := m) (by omega)]; rfl
      have h3 := Int.emod_nonneg (ofA (G.drop (m + 1)) v).2 (show rd G m ≠ 0 by omega)
      have h4 := Int.emod_lt_of_pos (ofA (G.drop (m + 1)) v).2 (show 0 < rd G m by omega)
      have h5 := Int.ediv_nonneg h1 (show 0 ≤ rd G m by omega)
      have h6 := Int.ediv_le_self (rd G m) h1
      have := ih n (by omega) (by omega)
      rw [hd] at this
      rw [Int.tdiv_eq_ediv_of_nonneg h1, Int.tmod_eq_emod_of_nonneg h1, w64 (x := (ofA (G.drop (m + 1)) v).2 / rd G m) (by omega) (by omega), w64 (x := (ofA (G.drop (m + 1)) v).2 % rd G m + 1) (by omega) (by omega), w64 (x := (m : Int) - 1) (by omega) (by omega), Int.toNat_natCast, set_rep]
      exact this
theorem l02Of_f {k : Nat} {G : List Int} {v : Int} (hk : 2097152 ≤ k) (h : isT G = true) (hv : 0 ≤ v) (hv2 : v ≤ 6553600000000) : spec_l02Of.f k G v = some (ofN G v) := by
  unfold spec_l02Of.f spec_l02Of.g
  have := isT_len h
  rw [if_pos (by omega), if_pos (by omega), if_pos (by omega), Int.toNat_natCast, List.length_replicate, w64 (by omega) (by omega)]
  have := l02Of_loop (k := k) (isT_gp h) (isT_len h).2 hv hv2 G.length k (by omega) (by omega)
  rw [List.drop_length] at this
  simpa [ofA] using this
theorem numbered_loop {k : Nat} {G : List Int} {v : Int} (hG : Gp G) (hl : G.length ≤ 8) (hv : 0 ≤ v) (hv2 : v ≤ 6553600000000) : ∀ (m n : Nat), m ≤ G.length → m < n →
    impl_Tasks_numbered.l0 k n (ofA (G.drop m) v).2 G (List.replicate m 0 ++ (ofA (G.drop m) v).1) ((m : Int) - 1) = some (ofN G v) := by
  intro m
  induction m with
  | zero =>
    intro n hm hn
    cases n with
    | zero => omega
    | succ n =>
      simp only [impl_Tasks_numbered.l0, impl_Tasks_numbered.s0]
      rw [if_neg (by omega), List.drop_zero]
      rfl
  | succ m ih =>
    intro n hm hn
    cases n with
    | zero => omega
    | succ n =>
      have hi : (((m + 1 : Nat) : Int) - 1) = (m : Int) := by omega
      have hg := hG _ (rd_mem (l := G) (i := m) (by omega))
      have hGd := cnt_drop (m + 1) hG
      have h1 := ofA_nonneg hGd hv
      have h2 := ofA_le hGd hv
      have hlen := ofA_len (G.drop (m + 1)) v
      rw [hi]
      simp only [impl_Tasks_numbered.l0, impl_Tasks_numbered.s0]
      rw [if_pos (by omega), if_pos (by omega), if_pos (by omega), if_neg (by omega), if_pos (by omega), if_pos (by simp; omega), if_pos (by omega), if_pos (by omega), if_neg (by omega)]
      have hd : ofA (G.drop m) v = (((ofA (G.drop (m + 1)) v).2 % rd G m + 1) :: (ofA (G.drop (m + 1)) v).1, (ofA (G.drop (m + 1)) v).2 / rd G m) := by
        rw [drop_cons (l := G) (i := m) (by omega)]; rfl
      have h3 := Int.emod_nonneg (ofA (G.drop (m + 1)) v).2 (show rd G m ≠ 0 by omega)
      have h4 := Int.emod_lt_of_pos (ofA (G.drop (m + 1)) v).2 (show 0 < rd G m by omega)
      have h5 := Int.ediv_nonneg h1 (show 0 ≤ rd G m by omega)
      have h6 := Int.ediv_le_self (rd G m) h1
      have := ih n (by omega) (by omega)
      rw [hd] at this
      rw [Int.tdiv_eq_ediv_of_nonneg h1, Int.tmod_eq_emod_of_nonneg h1, w64 (x := (ofA (G.drop (m + 1)) v).2 / rd G m) (by omega) (by omega), w64 (x := (ofA (G.drop (m + 1)) v).2 % rd G m + 1) (by omega) (by omega), w64 (x := (m : Int) - 1) (by omega) (by omega), Int.toNat_natCast, set_rep]
      exact this
theorem numbered_f {k : Nat} {G : List Int} {v : Int} (hk : 2097152 ≤ k) (h : isT G = true) (hv : 0 ≤ v) (hv2 : v ≤ 6553600000000) : impl_Tasks_numbered.f k G v = some (ofN G v) := by
  unfold impl_Tasks_numbered.f impl_Tasks_numbered.g
  have := isT_len h
  rw [many_f, Option.bind_some, if_pos (by omega), if_pos (by omega), if_pos (by omega), Option.bind_some, Int.toNat_natCast, w64 (by omega) (by omega)]
  have := numbered_loop (k := k) (isT_gp h) (isT_len h).2 hv hv2 G.length k (by omega) (by omega)
  rw [List.drop_length] at this
  simpa [ofA] using this
theorem clone_f {l : List Int} (hl : l.length ≤ 1048576) : slices_Clone_int64_int64.f l = some l := by
  unfold slices_Clone_int64_int64.f
  by_cases h : l.length = 0
  · rw [if_pos h, List.eq_nil_of_length_eq_zero h]
  · rw [if_neg h, if_pos (by omega), List.nil_append]
def stepR (pre : List Int) (o : Option (List Int)) : List Int × Bool :=
  match o with
  | some T => (pre ++ T, true)
  | none => ([], false)
theorem stepR_map (pre : List Int) (x : Int) (o : Option (List Int)) : stepR pre (o.map (x :: ·)) = stepR (pre ++ [x]) o := by
  cases o <;> simp [stepR]
theorem l02Step_loop {k : Nat} {G S : List Int} {c : Int} (hG : Gp G) (hl : G.length ≤ 8) (hs : Stt G S) : ∀ (d i n : Nat) (out : List Int), G.length - i = d → i ≤ G.length → d < n → out.length = i →
    spec_l02Step.l0 k n S c G out i = some (stepR out (stepA c i (G.drop i) (S.drop i))) := by
  have hsl := hs.length
  intro d
  induction d with
  | zero =>
    intro i n out hd hi hn ho
    obtain rfl : i = G.length := by omega
    cases n with
    | zero => omega
    | succ n =>
      simp only [spec_l02Step.l0, spec_l02Step.s0]
      rw [if_neg (by omega), List.drop_length]
      simp [stepA, stepR]
  | succ d ih =>
    intro i n out hd hi hn ho
    cases n with
    | zero => omega
    | succ n =>
      simp only [spec_l02Step.l0, spec_l02Step.s0]
      have hg := hG _ (rd_mem (l := G) (i := i) (by omega))
      obtain ⟨e1, e2⟩ := stt_at (i := i) hs (by omega)
      rw [drop_cons (l := G) (by omega), drop_cons (l := S) (by omega), if_pos (by omega)]
      simp only [stepA]
      by_cases hc : (i : Int) = c
      · rw [if_pos (by simpa using hc), if_pos hc, if_pos (by omega), if_pos (by omega), if_pos (by omega), w64n (by omega), ih (i + 1) n _ (by omega) (by omega) (by omega) (by simp [ho]), stepR_map]
        rfl
      · rw [if_neg (by simpa using hc), if_neg hc, if_pos (by omega), if_pos (by omega)]
        by_cases h2 : rd S i < 2
        · rw [if_pos (by simp; omega), if_pos h2]; rfl
        · rw [if_neg (by simp; omega), if_neg h2, if_pos (by omega), if_pos (by omega), if_pos (by omega), w64 (by omega) (by omega), w64n (by omega), ih (i + 1) n _ (by omega) (by omega) (by omega) (by simp [ho]), stepR_map]
          rfl
theorem l02Step_f {k : Nat} {G S : List Int} (hk : 2097152 ≤ k) (h : isT G = true) (hs : Stt G S) (c : Int) : spec_l02Step.f k G S c = some (stepR [] (step G S c)) := by
  unfold spec_l02Step.f spec_l02Step.g
  have := isT_len h
  exact l02Step_loop (k := k) (isT_gp h) (isT_len h).2 hs G.length 0 k [] (by omega) (by omega) (by omega) rfl
theorem rd_app (pre S : List Int) (i : Nat) (h : pre.length = i) (hi : i < S.length) : rd (pre ++ S.drop i) i = rd S i := by
  rw [rd_nat, rd_nat, List.getD_eq_getElem?_getD, List.getElem?_append_right (by omega), List.getElem?_drop, List.getD_eq_getElem?_getD]
  congr 2
  omega
theorem set_app (pre S : List Int) (i : Nat) (x : Int) (h : pre.length = i) (hi : i < S.length) : (pre ++ S.drop i).set i x = (pre ++ [x]) ++ S.drop (i + 1) := by
  rw [List.set_append_right _ _ (by omega), drop_cons (l := S) hi]
  simp [h]
theorem step_loop {k : Nat} {G S : List Int} {c : Int} (hG : Gp G) (hl : G.length ≤ 8) (hs : Stt G S) : ∀ (d i n : Nat) (out : List Int), G.length - i = d → i ≤ G.length → d < n → out.length = i →
    impl_Tasks_step.l0 k n c G (out ++ S.drop i) S.length i = some (stepR out (stepA c i (G.drop i) (S.drop i))) := by
  have hsl := hs.length
  intro d
  induction d with
  | zero =>
    intro i n out hd hi hn ho
    obtain rfl : i = G.length := by omega
    cases n with
    | zero => omega
    | succ n =>
      simp only [impl_Tasks_step.l0, impl_Tasks_step.s0]
      rw [if_neg (by omega), List.drop_length, List.drop_eq_nil_of_le (by omega)]
      simp [stepA, stepR]
  | succ d ih =>
    intro i n out hd hi hn ho
    cases n with
    | zero => omega
    | succ n =>
      have hg := hG _ (rd_mem (l := G) (i := i) (by omega))
      obtain ⟨e1, e2⟩ := stt_at (i := i) hs (by omega)
      have hlen : (out ++ S.drop i).length = S.length := by simp; omega
      simp only [impl_Tasks_step.l0, impl_Tasks_step.s0]
      rw [hlen, rd_app out S i ho (by omega), Int.toNat_natCast, set_app out S i _ ho (by omega), set_app out S i _ ho (by omega)]
      conv => rhs; rw [drop_cons (l := G) (i := i) (by omega), drop_cons (l := S) (i := i) (by omega)]
      rw [if_pos (by omega)]
      simp only [stepA]
      by_cases hc : (i : Int) = c
      · rw [if_pos (by simpa using hc), if_pos hc, if_pos (by omega), if_pos (by omega), if_pos (by omega), if_pos (by omega), w64n (by omega), ih (i + 1) n _ (by omega) (by omega) (by omega) (by simp [ho]), stepR_map]
        rfl
      · rw [if_neg (by simpa using hc), if_neg hc, if_pos (by omega), if_pos (by omega)]
        by_cases h2 : rd S i < 2
        · rw [if_pos (by simpa using h2), if_pos h2]; rfl
        · rw [if_neg (by simpa using h2), if_neg h2, if_pos (by omega), if_pos (by omega), if_pos (by omega), if_pos (by omega), w64 (x := rd S i - 1) (by omega) (by omega), w64n (by omega), ih (i + 1) n _ (by omega) (by omega) (by omega) (by simp [ho]), stepR_map]
          rfl
theorem step_f {k : Nat} {G S : List Int} (hk : 2097152 ≤ k) (h : isT G = true) (hs : Stt G S) (c : Int) : impl_Tasks_step.f k G S c = some (stepR [] (step G S c)) := by
  unfold impl_Tasks_step.f impl_Tasks_step.g
  have := isT_len h
  have hsl := hs.length
  rw [clone_f (by omega), Option.bind_some]
  exact step_loop (k := k) (isT_gp h) (isT_len h).2 hs G.length 0 k [] (by omega) (by omega) (by omega) rfl
def chsF (j d : Nat) : List Int := (List.range' j d).map fun i : Nat => (i : Int) - 1
theorem chsF_succ (j d : Nat) : chsF j (d + 1) = ((j : Int) - 1) :: chsF (j + 1) d := by
  simp [chsF, List.range'_succ]
theorem chs_eq (m : Nat) : chs m = chsF 0 (m + 1) := by
  unfold chs chsF
  rw [List.range_eq_range']
theorem mgI_nil {α : Type} (x : Int) : mgI ([] : List (Int × α)) x = none := rfl
theorem mgI_cons {α : Type} (a : Int) (y : α) (l : List (Int × α)) (x : Int) : mgI ((a, y) :: l) x = if x = a then some y else mgI l x := by
  show (match keyI x a with | true => some y | false => mget (.int .i64) l x) = _
  by_cases h : x = a
  · rw [(keyI_iff x a).2 h, if_pos h]
  · rw [if_neg h]
    cases hk : keyI x a with
    | true => exact absurd ((keyI_iff x a).1 hk) h
    | false => rfl
theorem mpI_nil {α : Type} (x : Int) (y : α) : mpI ([] : List (Int × α)) x y = [(x, y)] := rfl
theorem mpI_cons {α : Type} (a : Int) (z : α) (l : List (Int × α)) (x : Int) (y : α) : mpI ((a, z) :: l) x y = if x = a then (x, y) :: l else (a, z) :: mpI l x y := by
  show (match keyI x a with | true => (x, y) :: l | false => (a, z) :: mput (.int .i64) l x y) = _
  by_cases h : x = a
  · rw [(keyI_iff x a).2 h, if_pos h]
  · rw [if_neg h]
    cases hk : keyI x a with
    | true => exact absurd ((keyI_iff x a).1 hk) h
    | false => rfl
theorem mpI_new {α : Type} {l : List (Int × α)} {x : Int} {y : α} (h : ∀ p ∈ l, p.1 ≠ x) : mpI l x y = l ++ [(x, y)] := by
  induction l with
  | nil => rfl
  | cons p l ih =>
    obtain ⟨a, z⟩ := p
    rw [mpI_cons, if_neg (fun e => h (a, z) (by simp) e.symm), ih (fun p hp => h p (by simp [hp]))]
    rfl
theorem mgI_none {α : Type} {l : List (Int × α)} {x : Int} (h : ∀ p ∈ l, p.1 ≠ x) : mgI l x = none := by
  induction l with
  | nil => rfl
  | cons p l ih =>
    obtain ⟨a, z⟩ := p
    rw [mgI_cons, if_neg (fun e => h (a, z) (by simp) e.symm), ih (fun p hp => h p (by simp [hp]))]
theorem mgI_mpI {α : Type} (l : List (Int × α)) (x z : Int) (y : α) : mgI (mpI l x y) z = if z = x then some y else mgI l z := by
  induction l with
  | nil => rw [mpI_nil, mgI_cons]
  | cons p l ih =>
    obtain ⟨a, w⟩ := p
    rw [mpI_cons]
    by_cases h : x = a
    · rw [if_pos h, mgI_cons]
      subst h
      by_cases h2 : z = x
      · rw [if_pos h2, if_pos h2]
      · rw [if_neg h2, if_neg h2, mgI_cons, if_neg h2]
    · rw [if_neg h, mgI_cons, ih, mgI_cons]
      by_cases h2 : z = a
      · rw [if_pos h2, if_pos h2, if_neg (fun e => h (e.symm.trans h2))]
      · rw [if_neg h2, if_neg h2]
def ent (G : List Int) (v : Int) (c : Int) : Option (Int × Int) := (step G (ofN G v) c).map fun T => (c, num G T)
def nxF (G : List Int) (v : Int) (j d : Nat) : List (Int × Int) := (chsF j d).filterMap (ent G v)
def nx (G : List Int) (v : Int) : List (Int × Int) := nxF G v 0 (G.length + 1)
theorem nxF_succ (G : List Int) (v : Int) (j d : Nat) : nxF G v j (d + 1) = (match ent G v ((j : Int) - 1) with | some p => p :: nxF G v (j + 1) d | none => nxF G v (j + 1) d) := by
  unfold nxF
  rw [chsF_succ, List.filterMap_cons]
  cases ent G v ((j : Int) - 1) <;> rfl
theorem nxF_ge (G : List Int) (v : Int) : ∀ (d j : Nat), ∀ p ∈ nxF G v j d, (j : Int) - 1 ≤ p.1 := by
  intro d j p hp
  unfold nxF at hp
  obtain ⟨c, hc, he⟩ := List.mem_filterMap.1 hp
  obtain ⟨i, hi, rfl⟩ := List.mem_map.1 hc
  unfold ent at he
  obtain ⟨T, _, rfl⟩ := Option.map_eq_some_iff.1 he
  have := List.mem_range'_1.1 hi
  show (j : Int) - 1 ≤ (i : Int) - 1
  omega
theorem mgI_nxF (G : List Int) (v : Int) : ∀ (d j i : Nat), j ≤ i → i < j + d → mgI (nxF G v j d) ((i : Int) - 1) = (step G (ofN G v) ((i : Int) - 1)).map (num G)
  | 0, j, i, h1, h2 => by omega
  | d + 1, j, i, h1, h2 => by
    rw [nxF_succ]
    by_cases e : i = j
    · subst e
      unfold ent
      cases hs : step G (ofN G v) ((i : Int) - 1) with
      | none =>
        simp only [Option.map_none]
        exact mgI_none fun p hp e => by have := nxF_ge G v d (i + 1) p hp; omega
      | some T => simp only [Option.map_some]; rw [mgI_cons, if_pos rfl]
    · have ih := mgI_nxF G v d (j + 1) i (by omega) (by omega)
      unfold ent
      cases hs : step G (ofN G v) ((j : Int) - 1) with
      | none => exact ih
      | some T =>
        simp only [Option.map_some]
        rw [mgI_cons, if_neg (by omega)]
        exact ih
theorem mgI_nx {G : List Int} {v : Int} {i : Nat} (h : i ≤ G.length) : mgI (nx G v) ((i : Int) - 1) = (step G (ofN G v) ((i : Int) - 1)).map (num G) :=
  mgI_nxF G v (G.length + 1) 0 i (by omega) (by omega)
def nxs (G : List Int) (m : Nat) : List (List (Int × Int)) := (List.range m).map fun i : Nat => nx G (i : Int)
theorem rdOf_nxs {G : List Int} {m i : Nat} (h : i < m) : rdOf ([] : List (Int × Int)) (nxs G m) (i : Int) = nx G (i : Int) := by
  rw [rdOf_lt (by simp [nxs]; exact h)]
  simp [nxs]
theorem getD_set_same {L : List Bool} {i : Nat} {b d : Bool} (h : i < L.length) : (L.set i b).getD i d = b := by
  rw [List.getD_eq_getElem?_getD, List.getElem?_set_self (by omega)]; rfl
theorem ofN_num_bnd {G : List Int} {v c : Int} {T : List Int} (h : isT G = true) (hs : step G (ofN G v) c = some T) : Stt G T ∧ 0 ≤ num G T ∧ num G T < cnt G := by
  have h1 := step_st (isT_gp h) (ofN_st v (isT_gp h)) hs
  exact ⟨h1, num_bnd (isT_gp h) h1⟩
theorem keeping_loop {k : Nat} {G : List Int} {L : List Bool} {v : Nat} (h : isT G = true) (hL : (L.length : Int) = cnt G) (hv : v < L.length) : ∀ (d j n : Nat) (out : List Int), G.length + 1 - j = d → j ≤ G.length + 1 → d < n → out.length ≤ j →
    impl_graph_keeping.l0 k n (G, nxs G L.length, L) v out ((j : Int) - 1) = some (out ++ (chsF j d).filter (goodC G L v)) := by
  have hlen := isT_len h
  intro d
  induction d with
  | zero =>
    intro j n out hd hj hn ho
    cases n with
    | zero => omega
    | succ n =>
      simp only [impl_graph_keeping.l0, impl_graph_keeping.s0, many_f, Option.bind_some]
      rw [if_neg (by omega)]
      simp [chsF]
  | succ d ih =>
    intro j n out hd hj hn ho
    cases n with
    | zero => omega
    | succ n =>
      simp only [impl_graph_keeping.l0, impl_graph_keeping.s0, many_f, Option.bind_some]
      have hnl : (nxs G L.length).length = L.length := by simp [nxs]
      have e1 : wrap64 ((j : Int) - 1 + 1) = ((j + 1 : Nat) : Int) - 1 := by rw [w64 (by omega) (by omega)]; omega
      rw [if_pos (by omega), if_pos (by omega), if_pos (by omega), rdOf_nxs hv, mgI_nx (by omega), chsF_succ, List.filter_cons, e1]
      cases hs : step G (ofN G v) ((j : Int) - 1) with
      | none =>
        have hg : goodC G L v ((j : Int) - 1) = false := by simp [goodC, hs]
        simp only [Option.map_none, Option.isSome_none, Bool.false_eq_true, if_false, hg]
        exact ih (j + 1) n out (by omega) (by omega) (by omega) (by omega)
      | some T =>
        obtain ⟨_, b1, b2⟩ := ofN_num_bnd h hs
        have hg : goodC G L v ((j : Int) - 1) = L.getD (num G T).toNat false := by simp [goodC, hs]
        simp only [Option.map_some, Option.isSome_some, if_true, Option.getD_some]
        rw [if_pos b1, if_pos (by omega), hg]
        cases hb : L.getD (num G T).toNat false with
        | true =>
          rw [if_pos (show rdOf false L (num G T) = true from hb)]
          simp only [if_true]
          rw [if_pos (by omega), ih (j + 1) n _ (by omega) (by omega) (by omega) (by simp; omega)]
          simp
        | false =>
          rw [if_neg (show ¬ rdOf false L (num G T) = true from by rw [show rdOf false L (num G T) = false from hb]; simp)]
          simp only [Bool.false_eq_true, if_false]
          exact ih (j + 1) n out (by omega) (by omega) (by omega) (by omega)
theorem keeping_f {k : Nat} {G : List Int} {L : List Bool} {v : Nat} (hk : 2097152 ≤ k) (h : isT G = true) (hL : (L.length : Int) = cnt G) (hv : v < L.length) : impl_graph_keeping.f k (G, nxs G L.length, L) v = some (keep G L v) := by
  unfold impl_graph_keeping.f impl_graph_keeping.g
  have := isT_len h
  have := keeping_loop (k := k) h hL hv (G.length + 1) 0 k [] (by omega) (by omega) (by omega) (by simp)
  rw [keep, chs_eq]
  exact this
def goodK (G : List Int) (L : List Bool) (i : Nat) : Bool := (keep G L i) != []
theorem goodK_t {G : List Int} {L : List Bool} {i : Nat} (h : keep G L i ≠ []) : goodK G L i = true := by simp [goodK, h]
theorem goodK_f {G : List Int} {L : List Bool} {i : Nat} (h : keep G L i = []) : ¬ goodK G L i = true := by simp [goodK, h]
theorem swp_end (g : List Bool → Nat → Bool) (d i : Nat) (L : List Bool) (ch : Bool) (hb : ¬ L.getD i false = true) : swp g (d + 1) i L ch = swp g d (i + 1) L ch := if_neg hb
theorem swp_good {g : List Bool → Nat → Bool} {d i : Nat} {L : List Bool} {ch : Bool} (hb : L.getD i false = true) (hg : g L i = true) : swp g (d + 1) i L ch = swp g d (i + 1) L ch := (if_pos hb).trans (if_pos hg)
theorem swp_bad {g : List Bool → Nat → Bool} {d i : Nat} {L : List Bool} {ch : Bool} (hb : L.getD i false = true) (hg : ¬ g L i = true) : swp g (d + 1) i L ch = swp g d (i + 1) (L.set i false) true := (if_pos hb).trans (if_neg hg)
theorem swp_set_len (L : List Bool) (i : Nat) : (L.set i false).length = L.length := by simp
theorem graph_l3 {k : Nat} {G : List Int} {m : Nat} (hk : 2097152 ≤ k) (h : isT G = true) (hm : (m : Int) = cnt G) {r2 : (List Int) → (List (List (Int × Int))) → (List Bool) → Bool → Option (((List Int) × (List (List (Int × Int))) × (List Bool)))} :
    ∀ (d i n : Nat) (L : List Bool) (ch : Bool), L.length = m → m - i = d → i ≤ m → d < n →
      impl_graphOf.l3 k r2 n G (nxs G m) L ch m i = r2 G (nxs G m) (swp (goodK G) d i L ch).1 (swp (goodK G) d i L ch).2 := by
  have hc := cnt_small (isT_gp h) (isT_len h).2
  intro d
  induction d with
  | zero =>
    intro i n L ch hL hd hi hn
    cases n with
    | zero => omega
    | succ n =>
      simp only [impl_graphOf.l3, impl_graphOf.s3]
      rw [if_neg (by omega)]
      rfl
  | succ d ih =>
    intro i n L ch hL hd hi hn
    cases n with
    | zero => omega
    | succ n =>
      simp only [impl_graphOf.l3, impl_graphOf.s3]
      rw [if_pos (by omega), if_pos (by omega), if_pos (by omega), rdOf_nat, w64n (by omega)]
      have hkeep := keeping_f hk h (L := L) (v := i) (by omega) (by omega)
      rw [hL] at hkeep
      rw [hkeep, Option.bind_some]
      by_cases hb : L.getD i false = true
      · rw [if_pos hb]
        by_cases hg : keep G L i = []
        · rw [if_pos (by rw [hg]; rfl), if_pos (by omega), if_pos (by omega), Int.toNat_natCast, swp_bad hb (goodK_f hg), ih (i + 1) n _ _ (by simpa using hL) (by omega) (by omega) (by omega)]
        · rw [if_neg (by have : (keep G L i).length ≠ 0 := fun e => hg (List.eq_nil_of_length_eq_zero e); omega), swp_good hb (goodK_t hg), ih (i + 1) n _ _ hL (by omega) (by omega) (by omega)]
      · rw [if_neg hb, swp_end _ _ _ _ _ hb, ih (i + 1) n _ _ hL (by omega) (by omega) (by omega)]
theorem graph_l2 {k : Nat} {G : List Int} {m : Nat} (hk : 2097152 ≤ k) (h : isT G = true) (hm : (m : Int) = cnt G) (hm2 : m ≤ 100000) : ∀ (n : Nat) (L : List Bool) (ch : Bool), L.length = m →
    impl_graphOf.l2 k n G (nxs G m) L ch = (fixO (goodK G) n L ch).map fun L => (G, nxs G m, L)
  | 0, L, ch, hL => rfl
  | n + 1, L, ch, hL => by
    simp only [impl_graphOf.l2, impl_graphOf.s2, fixO]
    cases ch with
    | false => simp
    | true =>
      simp only [if_true]
      have := graph_l3 (r2 := impl_graphOf.l2 k n) hk h hm m 0 k L false hL (by omega) (by omega) (by omega)
      rw [show (L.length : Int) = (m : Int) by omega]
      rw [show impl_graphOf.l3 k (impl_graphOf.l2 k n) k G (nxs G m) L false m 0 = _ from this, graph_l2 hk h hm hm2 n _ _ (by rw [swp_len]; exact hL), hL]
theorem graph_l1 {k : Nat} {G : List Int} {v : Nat} (hk : 2097152 ≤ k) (h : isT G = true) (hv : (v : Int) < cnt G) {r0 : (List Int) → (List Int) → (List (List (Int × Int))) → (List Bool) → Int → Int → Option (((List Int) × (List (List (Int × Int))) × (List Bool)))}
    {NX : List (List (Int × Int))} {L : List Bool} {N : Int} (h1 : NX.length ≤ 1048576) (h2 : L.length ≤ 1048576) : ∀ (d j n : Nat) (M : List (Int × Int)), G.length + 1 - j = d → j ≤ G.length + 1 → d < n → (∀ p ∈ M, p.1 < (j : Int) - 1) →
      impl_graphOf.l1 k r0 n G G NX L v M ((j : Int) - 1) N v = r0 G G (NX ++ [M ++ nxF G v j d]) (L ++ [true]) N ((v + 1 : Nat) : Int) := by
  have hlen := isT_len h
  have hc := cnt_small (isT_gp h) (isT_len h).2
  intro d
  induction d with
  | zero =>
    intro j n M hd hj hn hM
    cases n with
    | zero => omega
    | succ n =>
      simp only [impl_graphOf.l1, impl_graphOf.s1, many_f, Option.bind_some]
      rw [if_neg (by omega), if_pos (by omega), if_pos (by omega), w64n (by omega)]
      simp [nxF, chsF]
  | succ d ih =>
    intro j n M hd hj hn hM
    cases n with
    | zero => omega
    | succ n =>
      have hst := ofN_st (v : Int) (isT_gp h)
      have e1 : wrap64 ((j : Int) - 1 + 1) = ((j + 1 : Nat) : Int) - 1 := by rw [w64 (by omega) (by omega)]; omega
      simp only [impl_graphOf.l1, impl_graphOf.s1, many_f, Option.bind_some]
      rw [if_pos (by omega), numbered_f hk h (by omega) (by omega), Option.bind_some, step_f hk h hst, Option.bind_some, e1, nxF_succ]
      unfold ent
      cases hs : step G (ofN G v) ((j : Int) - 1) with
      | none =>
        simp only [stepR, Bool.false_eq_true, if_false, Option.map_none]
        exact ih (j + 1) n M (by omega) (by omega) (by omega) (fun p hp => by have := hM p hp; omega)
      | some T =>
        obtain ⟨b0, b1, b2⟩ := ofN_num_bnd h hs
        simp only [stepR, if_true, Option.map_some, List.nil_append]
        rw [number_f hk h b0, Option.bind_some, mpI_new (fun p hp e => by have := hM p hp; omega), ih (j + 1) n _ (by omega) (by omega) (by omega) (fun p hp => by
          rcases List.mem_append.1 hp with hp | hp
          · have := hM p hp; omega
          · simp only [List.mem_singleton] at hp; subst hp; show (j : Int) - 1 < _; omega)]
        simp
theorem nxs_succ (G : List Int) (m : Nat) : nxs G (m + 1) = nxs G m ++ [nx G m] := by
  simp [nxs, List.range_succ]
theorem graph_l0 {k : Nat} {G : List Int} {m : Nat} (hk : 2097152 ≤ k) (h : isT G = true) (hm : (m : Int) = cnt G) (hm2 : m ≤ 100000) : ∀ (d i n : Nat), m - i = d → i ≤ m → d < n →
    impl_graphOf.l0 k n G G (nxs G i) (List.replicate i true) m i = (fixO (goodK G) k (List.replicate m true) true).map fun L => (G, nxs G m, L) := by
  have hlen := isT_len h
  intro d
  induction d with
  | zero =>
    intro i n hd hi hn
    obtain rfl : i = m := by omega
    cases n with
    | zero => omega
    | succ n =>
      simp only [impl_graphOf.l0, impl_graphOf.s0]
      rw [if_neg (by omega), graph_l2 hk h hm hm2 k _ _ (by simp)]
  | succ d ih =>
    intro i n hd hi hn
    cases n with
    | zero => omega
    | succ n =>
      simp only [impl_graphOf.l0, impl_graphOf.s0]
      have := graph_l1 (v := i) (r0 := impl_graphOf.l0 k n) (NX := nxs G i) (L := List.replicate i true) (N := (m : Int)) hk h (by omega) (by simp [nxs]; omega) (by simp; omega) (G.length + 1) 0 k [] (by omega) (by omega) (by omega) (by simp)
      rw [if_pos (by omega)]
      refine Eq.trans this ?_
      rw [List.nil_append, ← List.replicate_succ', show nxF G i 0 (G.length + 1) = nx G i from rfl, ← nxs_succ]
      exact ih (i + 1) n (by omega) (by omega) (by omega)
theorem fix_mono (good : List Bool → Nat → Bool) : ∀ (n n' : Nat) (L L' : List Bool) (ch : Bool), n ≤ n' → fixO good n L ch = some L' → fixO good n' L ch = some L'
  | 0, _, _, _, _, _, h => by cases h
  | n + 1, 0, _, _, _, h, _ => by omega
  | n + 1, n' + 1, L, L', ch, h, e => by
    cases ch with
    | false => exact e
    | true => exact fix_mono good n n' _ _ _ (by omega) e
theorem lasting_fix {G : List Int} (h : isT G = true) (hc : cnt G ≤ 4000) {k : Nat} (hk : 4003 ≤ k) : fixO (goodK G) k (List.replicate (cnt G).toNat true) true = some (lasting G) ∧ ((lasting G).length : Int) = cnt G := by
  have hp := cnt_pos (isT_gp h)
  obtain ⟨L', h1, h2⟩ := fix_some (goodK G) 4003 (List.replicate (cnt G).toNat true) true (by have := trues_le (List.replicate (cnt G).toNat true); simp at this; omega)
  have e : lasting G = L' := by
    unfold lasting
    rw [show (fun L i => (keep G L (i : Nat)) != []) = goodK G from rfl, h1]; rfl
  rw [e]
  refine ⟨fix_mono _ _ _ _ _ _ hk h1, ?_⟩
  rw [h2]; simp; omega
theorem graphOf_f {k : Nat} {G : List Int} (hk : 2097152 ≤ k) (h : isT G = true) (hc : cnt G ≤ 4000) : impl_graphOf.f k G = some (G, nxs G (lasting G).length, lasting G) := by
  have hp := cnt_pos (isT_gp h)
  unfold impl_graphOf.f impl_graphOf.g
  rw [states_f hk h, Option.bind_some]
  obtain ⟨h1, h2⟩ := lasting_fix h hc (k := k) (by omega)
  have := graph_l0 (m := (cnt G).toNat) hk h (by omega) (by omega) (cnt G).toNat 0 k (by omega) (by omega) (by omega)
  rw [h1, show (((cnt G).toNat : Nat) : Int) = cnt G by omega] at this
  refine Eq.trans this ?_
  rw [Option.map_some, show (cnt G).toNat = (lasting G).length by omega]
theorem filter_goodC_nil {G : List Int} {L : List Bool} {v : Int} {j d : Nat} : ((chsF j (d + 1)).filter (goodC G L v) = []) ↔ (goodC G L v ((j : Int) - 1) = false ∧ (chsF (j + 1) d).filter (goodC G L v) = []) := by
  rw [chsF_succ, List.filter_cons]
  cases goodC G L v ((j : Int) - 1) <;> simp
theorem lasting_l3 {k : Nat} {G : List Int} {L : List Bool} {v m : Nat} (hk : 2097152 ≤ k) (h : isT G = true) (hL : L.length = m) (hm : (m : Int) = cnt G) (hv : v < m) {ch : Bool} {r1 : (List Int) → Int → (List Bool) → Bool → Option ((List Bool))} {r2 : (List Int) → Int → (List Bool) → Bool → Int → Option ((List Bool))} :
    ∀ (d j n : Nat) (good : Bool), G.length + 1 - j = d → j ≤ G.length + 1 → d < n →
      spec_l02Lasting.l3 k r1 r2 n G m L ch v (ofN G v) good ((j : Int) - 1) = if good = true ∨ (chsF j d).filter (goodC G L v) ≠ [] then r2 G m L ch ((v + 1 : Nat) : Int) else r2 G m (L.set v false) true ((v + 1 : Nat) : Int) := by
  have hlen := isT_len h
  have hc := cnt_small (isT_gp h) (isT_len h).2
  have hst := ofN_st (v : Int) (isT_gp h)
  intro d
  induction d with
  | zero =>
    intro j n good hd hj hn
    cases n with
    | zero => omega
    | succ n =>
      simp only [spec_l02Lasting.l3, spec_l02Lasting.s3, l01K_f, Option.bind_some]
      rw [if_neg (by omega), w64n (by omega)]
      cases good with
      | true => simp [chsF]
      | false => rw [if_neg (by simp), if_pos (by omega), if_pos (by omega), Int.toNat_natCast]; simp [chsF]
  | succ d ih =>
    intro j n good hd hj hn
    cases n with
    | zero => omega
    | succ n =>
      have e1 : wrap64 ((j : Int) - 1 + 1) = ((j + 1 : Nat) : Int) - 1 := by rw [w64 (by omega) (by omega)]; omega
      simp only [spec_l02Lasting.l3, spec_l02Lasting.s3, l01K_f, Option.bind_some]
      rw [if_pos (by omega), w64n (by omega)]
      cases good with
      | true => simp
      | false =>
        simp only [Bool.false_eq_true, if_false, false_or]
        rw [l02Step_f hk h hst, Option.bind_some, e1]
        cases hs : step G (ofN G v) ((j : Int) - 1) with
        | none =>
          have hg : goodC G L v ((j : Int) - 1) = false := by simp [goodC, hs]
          simp only [stepR, Bool.false_eq_true, if_false]
          rw [ih (j + 1) n false (by omega) (by omega) (by omega)]
          simp [chsF_succ, List.filter_cons, hg]
        | some T =>
          obtain ⟨b0, b1, b2⟩ := ofN_num_bnd h hs
          have hg : goodC G L v ((j : Int) - 1) = L.getD (num G T).toNat false := by simp [goodC, hs]
          simp only [stepR, if_true, List.nil_append]
          rw [l02Number_f hk h b0, Option.bind_some, if_pos b1, if_pos (by omega), show rdOf false L (num G T) = L.getD (num G T).toNat false from rfl, ih (j + 1) n _ (by omega) (by omega) (by omega), ← hg]
          cases hb : goodC G L v ((j : Int) - 1) with
          | true => simp [chsF_succ, List.filter_cons, hb]
          | false => simp [chsF_succ, List.filter_cons, hb]
theorem lasting_l2 {k : Nat} {G : List Int} {m : Nat} (hk : 2097152 ≤ k) (h : isT G = true) (hm : (m : Int) = cnt G) {r1 : (List Int) → Int → (List Bool) → Bool → Option ((List Bool))} :
    ∀ (d i n : Nat) (L : List Bool) (ch : Bool), L.length = m → m - i = d → i ≤ m → d < n →
      spec_l02Lasting.l2 k r1 n G m L ch i = r1 G m (swp (goodK G) d i L ch).1 (swp (goodK G) d i L ch).2 := by
  have hc := cnt_small (isT_gp h) (isT_len h).2
  have hlen := isT_len h
  intro d
  induction d with
  | zero =>
    intro i n L ch hL hd hi hn
    cases n with
    | zero => omega
    | succ n =>
      simp only [spec_l02Lasting.l2, spec_l02Lasting.s2]
      rw [if_neg (by omega)]
      rfl
  | succ d ih =>
    intro i n L ch hL hd hi hn
    cases n with
    | zero => omega
    | succ n =>
      simp only [spec_l02Lasting.l2, spec_l02Lasting.s2]
      rw [if_pos (by omega), if_pos (by omega), if_pos (by omega), rdOf_nat, w64n (by omega), l02Of_f hk h (by omega) (by omega), Option.bind_some]
      have := lasting_l3 (L := L) (v := i) (m := m) (ch := ch) (r1 := r1) (r2 := spec_l02Lasting.l2 k r1 n) hk h hL hm (by omega) (G.length + 1) 0 k false (by omega) (by omega) (by omega)
      rw [show spec_l02Lasting.l3 k r1 (spec_l02Lasting.l2 k r1 n) k G m L ch i (ofN G i) false (-1) = _ from this]
      by_cases hb : L.getD i false = true
      · rw [if_pos hb]
        by_cases hg : keep G L i = []
        · rw [if_neg (by rw [keep, chs_eq] at hg; simp [hg]), swp_bad hb (goodK_f hg), ih (i + 1) n _ _ (by simpa using hL) (by omega) (by omega) (by omega)]
        · rw [if_pos (Or.inr (by rw [keep, chs_eq] at hg; exact hg)), swp_good hb (goodK_t hg), ih (i + 1) n _ _ hL (by omega) (by omega) (by omega)]
      · rw [if_neg hb, swp_end _ _ _ _ _ hb, ih (i + 1) n _ _ hL (by omega) (by omega) (by omega)]
theorem lasting_l1 {k : Nat} {G : List Int} {m : Nat} (hk : 2097152 ≤ k) (h : isT G = true) (hm : (m : Int) = cnt G) (hm2 : m ≤ 100000) : ∀ (n : Nat) (L : List Bool) (ch : Bool), L.length = m →
    spec_l02Lasting.l1 k n G m L ch = fixO (goodK G) n L ch
  | 0, L, ch, hL => rfl
  | n + 1, L, ch, hL => by
    simp only [spec_l02Lasting.l1, spec_l02Lasting.s1, fixO]
    cases ch with
    | false => simp
    | true =>
      simp only [if_true]
      have := lasting_l2 (r1 := spec_l02Lasting.l1 k n) hk h hm m 0 k L false hL (by omega) (by omega) (by omega)
      rw [show spec_l02Lasting.l2 k (spec_l02Lasting.l1 k n) k G m L false 0 = _ from this, lasting_l1 hk h hm hm2 n _ _ (by rw [swp_len]; exact hL), hL]
theorem fill_set (m i : Nat) (h : i < m) : (List.replicate i true ++ List.replicate (m - i) false).set i true = List.replicate (i + 1) true ++ List.replicate (m - (i + 1)) false := by
  rw [List.set_append_right _ _ (by simp), show m - i = (m - (i + 1)) + 1 by omega, List.replicate_succ, List.replicate_succ']
  simp
theorem lasting_l0 {k : Nat} {G : List Int} {m : Nat} (hk : 2097152 ≤ k) (h : isT G = true) (hm : (m : Int) = cnt G) (hm2 : m ≤ 100000) : ∀ (d i n : Nat), m - i = d → i ≤ m → d < n →
    spec_l02Lasting.l0 k n G m (List.replicate i true ++ List.replicate (m - i) false) m i = fixO (goodK G) k (List.replicate m true) true := by
  intro d
  induction d with
  | zero =>
    intro i n hd hi hn
    obtain rfl : i = m := by omega
    cases n with
    | zero => omega
    | succ n =>
      simp only [spec_l02Lasting.l0, spec_l02Lasting.s0]
      rw [if_neg (by omega), Nat.sub_self, List.replicate_zero, List.append_nil, lasting_l1 hk h hm hm2 k _ _ (by simp)]
  | succ d ih =>
    intro i n hd hi hn
    cases n with
    | zero => omega
    | succ n =>
      simp only [spec_l02Lasting.l0, spec_l02Lasting.s0]
      rw [if_pos (by omega), if_pos (by omega), if_pos (by simp; omega), Int.toNat_natCast, fill_set m i (by omega), w64n (by omega)]
      exact ih (i + 1) n (by omega) (by omega) (by omega)
theorem l02Lasting_f {k : Nat} {G : List Int} (hk : 2097152 ≤ k) (h : isT G = true) (hc : cnt G ≤ 4000) : spec_l02Lasting.f k G = some (lasting G) := by
  have hp := cnt_pos (isT_gp h)
  unfold spec_l02Lasting.f spec_l02Lasting.g
  rw [l02Count_f hk h, Option.bind_some, if_pos (by omega), if_pos (by omega), if_pos (by omega)]
  obtain ⟨h1, h2⟩ := lasting_fix h hc (k := k) (by omega)
  have := lasting_l0 (m := (cnt G).toNat) hk h (by omega) (by omega) (cnt G).toNat 0 k (by omega) (by omega) (by omega)
  rw [h1, show (((cnt G).toNat : Nat) : Int) = cnt G by omega] at this
  rw [List.length_replicate, show (((cnt G).toNat : Nat) : Int) = cnt G by omega]
  exact this
def upF : Int → Nat → List Int
  | _, 0 => []
  | a, n + 1 => a :: upF (a + 1) n
theorem upF_len : ∀ (n : Nat) (a : Int), (upF a n).length = n
  | 0, _ => rfl
  | n + 1, a => by simp [upF, upF_len n]
theorem drop_consB {L : List Bool} {i : Nat} (h : i < L.length) : L.drop i = L.getD i false :: L.drop (i + 1) := by
  rw [List.getD_eq_getElem?_getD, List.getElem?_eq_getElem h, Option.getD_some]; exact List.drop_eq_getElem_cons h
def few (G : List Int) : Int := if isT G then (if 4000 < cnt G then 3 else 0) else 1
theorem few_zero {G : List Int} (h : few G = 0) : isT G = true ∧ cnt G ≤ 4000 := by
  unfold few at h
  cases hb : isT G with
  | false => rw [hb] at h; simp at h
  | true =>
    rw [hb] at h
    by_cases hc : 4000 < cnt G
    · simp [hc] at h
    · exact ⟨rfl, by omega⟩
def countR (G : List Int) : Int × Int := if few G = 0 then ((trues (lasting G) : Nat), 0) else (0, few G)
theorem lasting_len {G : List Int} (h : isT G = true) (hc : cnt G ≤ 4000) : ((lasting G).length : Int) = cnt G := (lasting_fix (k := 4003) h hc (Nat.le_refl _)).2
def stB : List Int → List Int → Bool
  | [], [] => true
  | g :: G, s :: S => decide (1 ≤ s ∧ s ≤ g) && stB G S
  | _, _ => false
theorem stB_iff : ∀ {G S : List Int}, stB G S = true ↔ Stt G S
  | [], [] => by simp [stB, Stt]
  | g :: G, s :: S => by simp [stB, Stt, stB_iff (G := G) (S := S)]
  | [], s :: S => by simp [stB, Stt]
  | g :: G, [] => by simp [stB, Stt]
theorem stB_drop {G S : List Int} {i : Nat} (h1 : i < G.length) (h2 : i < S.length) : stB (G.drop i) (S.drop i) = (decide (1 ≤ rd S i ∧ rd S i ≤ rd G i) && stB (G.drop (i + 1)) (S.drop (i + 1))) := by
  rw [drop_cons h1, drop_cons h2]; rfl
theorem stB_end {G S : List Int} {i : Nat} (h1 : i ≤ G.length) (h2 : i ≤ S.length) (h : i = G.length ∨ i = S.length) : stB (G.drop i) (S.drop i) = decide ((S.length : Int) = (G.length : Int)) := by
  rcases h with h | h
  · subst h
    rw [List.drop_length]
    by_cases e : S.length = G.length
    · rw [List.drop_eq_nil_of_le (by omega)]; simp [stB, e]
    · cases hs : S.drop G.length with
      | nil => have := List.drop_eq_nil_iff.1 hs; omega
      | cons => simp [stB]; omega
  · subst h
    rw [List.drop_length]
    by_cases e : S.length = G.length
    · rw [List.drop_eq_nil_of_le (by omega)]; simp [stB, e]
    · cases hs : G.drop S.length with
      | nil => have := List.drop_eq_nil_iff.1 hs; omega
      | cons => simp [stB]; omega
theorem isState_loop {k : Nat} {G S : List Int} (hl : S.length ≤ 1048576) (hs : S.length = G.length) : ∀ (d i n : Nat), S.length - i = d → i ≤ S.length → d < n →
    impl_Tasks_isState.l0 k n G S S.length i = some (stB (G.drop i) (S.drop i)) := by
  intro d
  induction d with
  | zero =>
    intro i n hd hi hn
    cases n with
    | zero => omega
    | succ n =>
      simp only [impl_Tasks_isState.l0, impl_Tasks_isState.s0]
      rw [if_neg (by omega), stB_end (by omega) hi (by omega)]
      simp [hs]
  | succ d ih =>
    intro i n hd hi hn
    cases n with
    | zero => omega
    | succ n =>
      simp only [impl_Tasks_isState.l0, impl_Tasks_isState.s0]
      rw [if_pos (by omega), if_pos (by omega), if_pos (by omega), if_pos (by omega), if_pos (by omega), within_f, Option.bind_some, w64n (by omega), stB_drop (by omega) (by omega)]
      by_cases hb : 1 ≤ rd S i ∧ rd S i ≤ rd G i
      · rw [if_pos (by simpa using hb), ih (i + 1) n (by omega) (by omega) (by omega)]; simp [hb]
      · rw [if_neg (by simpa using hb)]; simp only [hb, decide_false, Bool.false_and]
theorem isState_f {k : Nat} {G S : List Int} (hk : 2097152 ≤ k) (hl : S.length ≤ 1048576) : impl_Tasks_isState.f k G S = some (stB G S) := by
  unfold impl_Tasks_isState.f impl_Tasks_isState.g
  rw [length_f, Option.bind_some, many_f, Option.bind_some]
  by_cases e : S.length = G.length
  · rw [if_pos (by omega)]
    exact isState_loop hl e S.length 0 k (by omega) (by omega) (by omega)
  · rw [if_neg (by omega)]
    have := stB_end (G := G) (S := S) (i := 0) (by omega) (by omega)
    cases hb : stB G S with
    | false => rfl
    | true => exact absurd ((stB_iff.1 hb).length) e
def given (G S : List Int) : Int := if isT G then (if stB G S then (if 4000 < cnt G then 3 else 0) else 2) else 1
theorem given_zero {G S : List Int} (h : given G S = 0) : isT G = true ∧ Stt G S ∧ cnt G ≤ 4000 := by
  unfold given at h
  cases hb : isT G with
  | false => rw [hb] at h; simp at h
  | true =>
    rw [hb] at h
    cases hs : stB G S with
    | false => rw [hs] at h; simp at h
    | true =>
      rw [hs] at h
      by_cases hc : 4000 < cnt G
      · simp [hc] at h
      · exact ⟨rfl, stB_iff.1 hs, by omega⟩
def isLastR (G S : List Int) : Bool × Int := if given G S = 0 then ((lasting G).getD (num G S).toNat false, 0) else (false, given G S)
theorem impl_IsLasting_f {k : Nat} {G S : List Int} (hk : 2097152 ≤ k) (hl : G.length ≤ 1048576) (hs : S.length ≤ 1048576) : impl_IsLasting.f k G S = some (isLastR G S) := by
  unfold impl_IsLasting.f isLastR
  rw [isState_f hk hs, Option.bind_some, statesCode_f hk hl, Option.bind_some]
  by_cases hf : given G S = 0
  · obtain ⟨h, hst, hc⟩ := given_zero hf
    have hL := lasting_len h hc
    obtain ⟨b1, b2⟩ := num_bnd (isT_gp h) hst
    rw [if_pos hf]
    refine (if_pos hf).trans ?_
    rw [graphOf_f hk h hc, Option.bind_some, number_f hk h hst, Option.bind_some, if_pos b1, if_pos (by show num G S < ((lasting G).length : Int); omega)]
    rfl
  · rw [if_neg hf]
    exact if_neg hf
theorem stt_self : ∀ {G : List Int}, Gp G → Stt G G
  | [], _ => trivial
  | g :: G, h => ⟨⟨h.head.1, Int.le_refl _⟩, stt_self h.tail⟩
theorem numA_self : ∀ {G : List Int} (a : Int), Gp G → numA a G G = (a + 1) * cnt G - 1
  | [], a, _ => by simp [numA, cnt]
  | g :: G, a, h => by
    show numA (a * g + g - 1) G G = (a + 1) * (g * cnt G) - 1
    rw [numA_self _ h.tail, show a * g + g - 1 + 1 = (a + 1) * g by rw [Int.add_mul]; omega, Int.mul_assoc]
theorem num_self {G : List Int} (h : Gp G) : num G G = cnt G - 1 := by
  unfold num; rw [numA_self 0 h]; omega
def canR (G : List Int) : Bool × Int := if few G = 0 then ((lasting G).getD (cnt G - 1).toNat false, 0) else (false, few G)
theorem given_self (G : List Int) : given G G = few G := by
  unfold given few
  cases hb : isT G with
  | false => rfl
  | true => rw [stB_iff.2 (stt_self (isT_gp hb))]; rfl
theorem canR_self (G : List Int) : isLastR G G = canR G := by
  unfold isLastR canR
  rw [given_self]
  by_cases hf : few G = 0
  · rw [if_pos hf, if_pos hf, num_self (isT_gp (few_zero hf).1)]
  · rw [if_neg hf, if_neg hf]
theorem l02Can_f {k : Nat} {G : List Int} (hk : 2097152 ≤ k) (h : isT G = true) (hc : cnt G ≤ 4000) : spec_l02Can.f k G = some ((lasting G).getD (cnt G - 1).toNat false) := by
  unfold spec_l02Can.f
  have hL := lasting_len h hc
  have hp := cnt_pos (isT_gp h)
  rw [l02Lasting_f hk h hc, Option.bind_some, l02Count_f hk h, Option.bind_some, w64 (by omega) (by omega), if_pos (by omega), if_pos (by omega)]
  rfl
theorem impl_CanServe_f {k : Nat} {G : List Int} (hk : 2097152 ≤ k) (hl : G.length ≤ 1048576) : impl_CanServe.f k G = some (canR G) := by
  unfold impl_CanServe.f
  rw [impl_IsLasting_f hk hl hl, Option.bind_some, canR_self]
def keepR (G S : List Int) : List Int × Int := if given G S = 0 then (if (lasting G).getD (num G S).toNat false = true then (keep G (lasting G) (num G S), 0) else ([], 5)) else ([], given G S)
theorem keep_len (G : List Int) (L : List Bool) (v : Int) : (keep G L v).length ≤ G.length + 1 := by
  unfold keep
  refine Nat.le_trans (List.length_filter_le _ _) ?_
  simp [chs]
theorem keepR_len {G S : List Int} : (keepR G S).1.length ≤ 1048576 := by
  unfold keepR
  by_cases hf : given G S = 0
  · rw [if_pos hf]
    have h1 := isT_len (given_zero hf).1
    have := keep_len G (lasting G) (num G S)
    split
    · show (keep G (lasting G) (num G S)).length ≤ _; omega
    · simp
  · rw [if_neg hf]; simp
theorem swp_flag (g : List Bool → Nat → Bool) : ∀ (d i : Nat) (L : List Bool), (swp g d i L true).2 = true
  | 0, i, L => rfl
  | d + 1, i, L => by
    by_cases hb : L.getD i false = true
    · by_cases hg : g L i = true
      · rw [swp_good hb hg]; exact swp_flag g d (i + 1) L
      · rw [swp_bad hb hg]; exact swp_flag g d (i + 1) _
    · rw [swp_end _ _ _ _ _ hb]; exact swp_flag g d (i + 1) L
theorem swp_still (g : List Bool → Nat → Bool) : ∀ (d i : Nat) (L : List Bool), (swp g d i L false).2 = false → (swp g d i L false).1 = L ∧ ∀ j, i ≤ j → j < i + d → L.getD j false = true → g L j = true
  | 0, i, L, _ => ⟨rfl, fun j h1 h2 => by omega⟩
  | d + 1, i, L, h => by
    by_cases hb : L.getD i false = true
    · by_cases hg : g L i = true
      · rw [swp_good hb hg] at h ⊢
        obtain ⟨h1, h2⟩ := swp_still g d (i + 1) L h
        refine ⟨h1, fun j h3 h4 h5 => ?_⟩
        by_cases e : j = i
        · rw [e]; exact hg
        · exact h2 j (by omega) (by omega) h5
      · rw [swp_bad hb hg, swp_flag] at h; cases h
    · rw [swp_end _ _ _ _ _ hb] at h ⊢
      obtain ⟨h1, h2⟩ := swp_still g d (i + 1) L h
      refine ⟨h1, fun j h3 h4 h5 => ?_⟩
      by_cases e : j = i
      · rw [e] at h5; exact absurd h5 hb
      · exact h2 j (by omega) (by omega) h5
theorem fix_good (g : List Bool → Nat → Bool) : ∀ (n : Nat) (L L' : List Bool) (ch : Bool), fixO g n L ch = some L' → (ch = false → ∀ j, j < L.length → L.getD j false = true → g L j = true) → ∀ j, j < L'.length → L'.getD j false = true → g L' j = true
  | 0, _, _, _, h, _ => by cases h
  | n + 1, L, L', false, h, hg => by
    obtain rfl : L = L' := by simpa [fixO] using h
    exact hg rfl
  | n + 1, L, L', true, h, hg => by
    have h' : fixO g n (swp g L.length 0 L false).1 (swp g L.length 0 L false).2 = some L' := by simpa [fixO] using h
    refine fix_good g n _ L' _ h' fun hf => ?_
    obtain ⟨h1, h2⟩ := swp_still g L.length 0 L hf
    rw [h1]
    exact fun j h3 h4 => h2 j (by omega) (by omega) h4
theorem lasting_good {G : List Int} (h : isT G = true) (hc : cnt G ≤ 4000) {v : Int} (h0 : 0 ≤ v) (h1 : v < cnt G) (hv : (lasting G).getD v.toNat false = true) : keep G (lasting G) v ≠ [] := by
  obtain ⟨h2, h3⟩ := lasting_fix (k := 4003) h hc (Nat.le_refl _)
  have := fix_good (goodK G) _ _ _ _ h2 (fun e => by cases e) v.toNat (by omega) hv
  unfold goodK at this
  rw [show ((v.toNat : Nat) : Int) = v by omega] at this
  simpa using this
theorem keep_next {G : List Int} (h : isT G = true) (hc : cnt G ≤ 4000) {v : Int} (h0 : 0 ≤ v) (h1 : v < cnt G) (hv : (lasting G).getD v.toNat false = true) :
    ∃ c T, 0 < (keep G (lasting G) v).length ∧ rd (keep G (lasting G) v) 0 = c ∧ step G (ofN G v) c = some T ∧ Stt G T ∧ 0 ≤ num G T ∧ num G T < cnt G ∧ (lasting G).getD (num G T).toNat false = true ∧ mgI (nx G v) c = some (num G T) := by
  cases hk : keep G (lasting G) v with
  | nil => exact absurd hk (lasting_good h hc h0 h1 hv)
  | cons c r =>
    have hm : c ∈ keep G (lasting G) v := by rw [hk]; simp
    obtain ⟨hm1, hm2⟩ := List.mem_filter.1 hm
    obtain ⟨i, hi, rfl⟩ := List.mem_map.1 hm1
    have hi := List.mem_range.1 hi
    cases hs : step G (ofN G v) ((i : Int) - 1) with
    | none => simp [goodC, hs] at hm2
    | some T =>
      obtain ⟨b0, b1, b2⟩ := ofN_num_bnd h hs
      refine ⟨(i : Int) - 1, T, by simp, rfl, hs, b0, b1, b2, by simpa [goodC, hs] using hm2, ?_⟩
      rw [mgI_nx (by omega), hs]; rfl
theorem can_few {G : List Int} (h : isT G = true) (hc : cnt G ≤ 4000) : (canR G).1 = (lasting G).getD (cnt G - 1).toNat false := by
  unfold canR
  rw [if_pos (by unfold few; rw [if_pos h, if_neg (by omega)])]
def nextV (G : List Int) (v : Int) : Int := num G ((step G (ofN G v) (rd (keep G (lasting G) v) 0)).getD [])
def play (G : List Int) : Nat → Int → List Int → List Int → Option (List Int × List Int)
  | 0, _, _, _ => none
  | n + 1, v, came, out => if 0 ≤ rd came v then some (out.take (rd came v).toNat, out.drop (rd came v).toNat) else play G n (nextV G v) (came.set v.toNat out.length) (out ++ [rd (keep G (lasting G) v) 0])
def negs (l : List Int) : Nat := (l.filter fun x => decide (x < 0)).length
theorem negs_set : ∀ {l : List Int} {i : Nat} {x : Int}, i < l.length → l.getD i 0 < 0 → 0 ≤ x → negs (l.set i x) + 1 = negs l
  | [], i, x, h, _, _ => by simp at h
  | a :: l, 0, x, _, h, h0 => by
    have h1 : ¬ x < 0 := by omega
    have h2 : a < 0 := by simpa using h
    simp [negs, h1, h2]
  | a :: l, i + 1, x, hi, h, h0 => by
    have := negs_set (l := l) (i := i) (x := x) (by simpa using hi) (by simpa using h) h0
    unfold negs at this ⊢
    rw [List.set_cons_succ, List.filter_cons, List.filter_cons]
    by_cases e : a < 0
    · rw [if_pos (by simpa using e), if_pos (by simpa using e), List.length_cons, List.length_cons]; omega
    · rw [if_neg (by simpa using e), if_neg (by simpa using e)]; exact this
theorem negs_rep : ∀ (m : Nat), negs (List.replicate m (-1 : Int)) = m := by
  intro m
  induction m with
  | zero => rfl
  | succ m ih =>
    unfold negs at ih ⊢
    rw [List.replicate_succ, List.filter_cons, if_pos (by simp), List.length_cons, ih]
structure PlayI (G : List Int) (v : Int) (came out : List Int) : Prop where
  v0 : 0 ≤ v
  v1 : v < cnt G
  lv : (lasting G).getD v.toNat false = true
  cl : (came.length : Int) = cnt G
  ol : (out.length : Int) + negs came = cnt G
  cb : ∀ i : Nat, i < came.length → rd came i ≤ out.length
theorem rd_set {l : List Int} {i j : Nat} {x : Int} (h : i < l.length) : rd (l.set i x) j = if j = i then x else rd l j := by
  rw [rd_nat, rd_nat, List.getD_eq_getElem?_getD, List.getD_eq_getElem?_getD, List.getElem?_set]
  by_cases e : i = j
  · subst e; rw [if_pos rfl, if_pos h, if_pos rfl]; rfl
  · rw [if_neg e, if_neg (fun c => e c.symm)]
theorem PlayI.next {G came out : List Int} {v : Int} (h : isT G = true) (hc : cnt G ≤ 4000) (I : PlayI G v came out) (hn : ¬ 0 ≤ rd came v) :
    PlayI G (nextV G v) (came.set v.toNat out.length) (out ++ [rd (keep G (lasting G) v) 0]) := by
  obtain ⟨c, T, _, hr, hs, h2, h3, h4, h5, _⟩ := keep_next h hc I.v0 I.v1 I.lv
  have e : nextV G v = num G T := by unfold nextV; rw [hr, hs]; rfl
  have hv0 := I.v0; have hv1 := I.v1; have hcl := I.cl; have hol := I.ol
  have hlen : v.toNat < came.length := by omega
  have hneg := negs_set (l := came) (i := v.toNat) (x := (out.length : Int)) hlen (by
    have : rd came v = came.getD v.toNat 0 := rfl
    omega) (by omega)
  rw [e]
  refine ⟨h3, h4, h5, by simpa using hcl, by simp; omega, fun i hi => ?_⟩
  have hi' : i < came.length := by simpa using hi
  rw [rd_set hlen]
  split
  · simp; omega
  · have := I.cb i hi'
    simp; omega
theorem play_some {G : List Int} (h : isT G = true) (hc : cnt G ≤ 4000) : ∀ (n : Nat) (v : Int) (came out : List Int), PlayI G v came out → negs came < n → ∃ r, play G n v came out = some r ∧ r.1.length ≤ 4000 ∧ r.2.length ≤ 4000
  | 0, v, came, out, I, hn => by omega
  | n + 1, v, came, out, I, hn => by
    unfold play
    have hol := I.ol
    by_cases hb : 0 ≤ rd came v
    · rw [if_pos hb]
      exact ⟨_, rfl, by simp; omega, by simp; omega⟩
    · rw [if_neg hb]
      have hv0 := I.v0; have hv1 := I.v1; have hcl := I.cl
      have hneg := negs_set (l := came) (i := v.toNat) (x := (out.length : Int)) (by omega) (by
        have : rd came v = came.getD v.toNat 0 := rfl
        omega) (by omega)
      exact play_some h hc n _ _ _ (I.next h hc hb) (by omega)
theorem own_f {l : List Int} (hl : l.length ≤ 1048576) : spec_l01Own.f l = some l := by
  unfold spec_l01Own.f
  rw [if_pos (by omega), List.nil_append]
theorem impl_play {k : Nat} {G : List Int} (hk : 2097152 ≤ k) (h : isT G = true) (hc : cnt G ≤ 4000) : ∀ (n : Nat) (v : Int) (seen : List (Int × Int)) (came out : List Int), PlayI G v came out → (∀ i : Nat, i < came.length → mgI seen i = if 0 ≤ rd came i then some (rd came i) else none) →
    impl_LeastPlay.l0 k n (some (G, nxs G (lasting G).length, lasting G)) seen out v = (play G n v came out).map fun r => (r.1, r.2, 0)
  | 0, v, seen, came, out, I, e => rfl
  | n + 1, v, seen, came, out, I, e => by
    have hL := lasting_len h hc
    have hv0 := I.v0; have hv1 := I.v1; have hcl := I.cl; have hol := I.ol
    have hcb := I.cb v.toNat (by omega)
    have ev := e v.toNat (by omega)
    rw [show ((v.toNat : Nat) : Int) = v by omega] at hcb ev
    unfold play
    simp only [impl_LeastPlay.l0, impl_LeastPlay.s0]
    rw [ev]
    by_cases hb : 0 ≤ rd came v
    · simp only [if_pos hb, Option.isSome_some, if_true, Option.getD_some]
      rw [if_pos hcb, clone_f (by simp; omega), Option.bind_some, if_pos hcb, if_pos (by omega), clone_f (by simp; omega), Option.bind_some, Int.toNat_natCast, List.take_length]
      rfl
    · simp only [if_neg hb, Option.isSome_none, Bool.false_eq_true, if_false, Option.bind_some]
      obtain ⟨c, T, h1, hr, hs, h2, h3, h4, h5, h6⟩ := keep_next h hc hv0 hv1 I.lv
      have hkp := keeping_f (k := k) (G := G) (L := lasting G) (v := v.toNat) hk h hL (by omega)
      rw [show ((v.toNat : Nat) : Int) = v by omega] at hkp
      have hnx : rdOf ([] : List (Int × Int)) (nxs G (lasting G).length) v = nx G v := by
        have := rdOf_nxs (G := G) (m := (lasting G).length) (i := v.toNat) (by omega)
        rwa [show ((v.toNat : Nat) : Int) = v by omega] at this
      have hnl : (nxs G (lasting G).length).length = (lasting G).length := by simp [nxs]
      rw [hkp, Option.bind_some, if_pos (by omega), if_pos (by omega), if_pos hv0, if_pos (by omega), hnx, hr, h6, Option.getD_some]
      have he : nextV G v = num G T := by unfold nextV; rw [hr, hs]; rfl
      have := impl_play hk h hc n (nextV G v) (mpI seen v out.length) _ _ (I.next h hc hb) (fun i hi => by
        have hi' : i < came.length := by simpa using hi
        rw [mgI_mpI, rd_set (by omega)]
        by_cases ei : i = v.toNat
        · rw [if_pos (by omega), if_pos ei, if_pos (by omega)]
        · rw [if_neg (by omega), if_neg ei]; exact e i hi')
      rw [hr, he] at this
      rw [he]
      exact this
def playR (G : List Int) : List Int × List Int × Int := if few G = 0 then (if (canR G).1 = true then (match play G 4001 (cnt G - 1) (List.replicate (cnt G).toNat (-1)) [] with | some r => (r.1, r.2, 0) | none => ([], [], 0)) else ([], [], 4)) else ([], [], few G)
theorem play_mono (G : List Int) : ∀ (n n' : Nat) (v : Int) (came out : List Int) (r : List Int × List Int), n ≤ n' → play G n v came out = some r → play G n' v came out = some r
  | 0, _, _, _, _, _, _, h => by cases h
  | n + 1, 0, _, _, _, _, h, _ => by omega
  | n + 1, n' + 1, v, came, out, r, h, e => by
    unfold play at e ⊢
    by_cases hb : 0 ≤ rd came v
    · rw [if_pos hb] at e ⊢; exact e
    · rw [if_neg hb] at e ⊢
      exact play_mono G n n' _ _ _ r (by omega) e
theorem play_start {G : List Int} (h : isT G = true) (hc : cnt G ≤ 4000) (hs : (canR G).1 = true) : PlayI G (cnt G - 1) (List.replicate (cnt G).toNat (-1)) [] := by
  have hp := cnt_pos (isT_gp h)
  refine ⟨by omega, by omega, by rw [← can_few h hc]; exact hs, by simp; omega, by rw [negs_rep]; simp; omega, fun i hi => ?_⟩
  have hi' : i < (cnt G).toNat := by simpa using hi
  rw [rd_lt hi]
  simp
theorem playR_eq {G : List Int} (hf : few G = 0) (hs : (canR G).1 = true) : ∃ r, play G 4001 (cnt G - 1) (List.replicate (cnt G).toNat (-1)) [] = some r ∧ playR G = (r.1, r.2, 0) ∧ r.1.length ≤ 4000 ∧ r.2.length ≤ 4000 := by
  obtain ⟨h, hc⟩ := few_zero hf
  obtain ⟨r, h1, h2, h3⟩ := play_some h hc 4001 _ _ _ (play_start h hc hs) (by rw [negs_rep]; omega)
  refine ⟨r, h1, ?_, h2, h3⟩
  unfold playR
  rw [if_pos hf, if_pos hs, h1]
theorem playR_len (G : List Int) : (playR G).1.length ≤ 4000 ∧ (playR G).2.1.length ≤ 4000 := by
  by_cases hf : few G = 0
  · by_cases hs : (canR G).1 = true
    · obtain ⟨r, _, h1, h2, h3⟩ := playR_eq hf hs
      rw [h1]; exact ⟨h2, h3⟩
    · unfold playR; rw [if_pos hf, if_neg hs]; simp
  · unfold playR; rw [if_neg hf]; simp
theorem ofN_full {G : List Int} (h : isT G = true) : ofN G (cnt G - 1) = G := by
  rw [← num_self (isT_gp h)]; exact ofN_num (isT_gp h) (stt_self (isT_gp h))
theorem full_f {k : Nat} {G : List Int} (hk : 2097152 ≤ k) (h : isT G = true) (X : List (List (Int × Int))) (L : List Bool) : impl_graph_full.f k (G, X, L) = some (cnt G - 1) := by
  unfold impl_graph_full.f
  have hp := cnt_pos (isT_gp h)
  have hc := cnt_small (isT_gp h) (isT_len h).2
  rw [show impl_Tasks_states.f k (G, X, L).1 = some (cnt G) from states_f hk h, Option.bind_some, w64 (by omega) (by omega)]
def servR (G : List Int) : Option (List Int × List (List (Int × Int)) × List Bool) × Int := if few G = 0 then (if (canR G).1 = true then (some (G, nxs G (lasting G).length, lasting G), 0) else (none, 4)) else (none, few G)
theorem servable_f {k : Nat} {G : List Int} (hk : 2097152 ≤ k) (hl : G.length ≤ 1048576) : impl_servable.f k G true = some (servR G) := by
  unfold impl_servable.f servR
  rw [statesCode_f hk hl, Option.bind_some]
  by_cases hf : few G = 0
  · obtain ⟨h, hc⟩ := few_zero hf
    have hL := lasting_len h hc
    have hp := cnt_pos (isT_gp h)
    refine (if_pos hf).trans ?_
    have hcan := can_few h hc
    rw [if_pos hf, graphOf_f hk h hc, Option.bind_some, full_f hk h, Option.bind_some, if_pos (by omega), if_pos (by show cnt G - 1 < ((lasting G).length : Int); omega)]
    by_cases hs : (canR G).1 = true
    · rw [if_pos hs]
      exact if_pos (show rdOf false (lasting G) (cnt G - 1) = true from by rw [← hs, hcan]; rfl)
    · rw [if_neg hs]
      exact if_neg (show ¬ rdOf false (lasting G) (cnt G - 1) = true from by rw [hcan] at hs; exact hs)
  · rw [if_neg hf]
    exact if_neg hf
theorem impl_LeastPlay_f {k : Nat} {G : List Int} (hk : 2097152 ≤ k) (hl : G.length ≤ 1048576) : impl_LeastPlay.f k G = some (playR G) := by
  unfold impl_LeastPlay.f impl_LeastPlay.g
  rw [servable_f hk hl, Option.bind_some]
  by_cases hf : few G = 0
  · obtain ⟨h, hc⟩ := few_zero hf
    have hp := cnt_pos (isT_gp h)
    by_cases hs : (canR G).1 = true
    · obtain ⟨r, h1, h2, h3, h4⟩ := playR_eq hf hs
      have e : servR G = (some (G, nxs G (lasting G).length, lasting G), 0) := by unfold servR; rw [if_pos hf, if_pos hs]
      rw [e, if_pos rfl, Option.bind_some, full_f hk h, Option.bind_some]
      refine (impl_play hk h hc k (cnt G - 1) [] _ [] (play_start h hc hs) (fun i hi => ?_)).trans ?_
      · have hi' : i < (cnt G).toNat := by simpa using hi
        rw [rd_lt hi, mgI_nil]
        simp
      · rw [play_mono G 4001 k _ _ _ r (by omega) h1, h2]; rfl
    · have e : servR G = (none, 4) := by unfold servR; rw [if_pos hf, if_neg hs]
      rw [e]
      unfold playR; rw [if_pos hf, if_neg hs]; rfl
  · have e : servR G = (none, few G) := by unfold servR; rw [if_neg hf]
    rw [e]
    refine (if_neg hf).trans ?_
    unfold playR; rw [if_neg hf]
def plotB (g : Int) : Bool := decide (1 ≤ g ∧ g ≤ 20)
def isG (l : List Int) : Bool := decide (1 ≤ l.length ∧ l.length ≤ 8) && l.all plotB
theorem isG_iff {l : List Int} : isG l = true ↔ (1 ≤ l.length ∧ l.length ≤ 8) ∧ ∀ g ∈ l, 1 ≤ g ∧ g ≤ 20 := by
  unfold isG plotB
  simp [List.all_eq_true]
theorem l06Is_loop {k : Nat} {l : List Int} (hl : l.length ≤ 1048576) : ∀ (d i n : Nat), l.length - i = d → i ≤ l.length → d < n →
    spec_l06Is.l0 k n l i = some ((l.drop i).all plotB && decide (1 ≤ l.length ∧ l.length ≤ 8)) := by
  intro d
  induction d with
  | zero =>
    intro i n hd hi hn
    obtain rfl : i = l.length := by omega
    cases n with
    | zero => omega
    | succ n =>
      simp only [spec_l06Is.l0, spec_l06Is.s0]
      rw [if_neg (by omega), List.drop_length]
      simp only [List.all_nil, Bool.true_and]
      by_cases h : 0 < (l.length : Int)
      · rw [if_pos h]
        congr 1
        rw [decide_eq_decide]; omega
      · rw [if_neg h]
        congr 1
        symm
        rw [decide_eq_false_iff_not]; omega
  | succ d ih =>
    intro i n hd hi hn
    cases n with
    | zero => omega
    | succ n =>
      simp only [spec_l06Is.l0, spec_l06Is.s0]
      rw [if_pos (by omega), if_pos (by omega), if_pos (by omega), l01In_f, Option.bind_some, drop_cons (by omega), List.all_cons]
      by_cases e : 1 ≤ rd l i ∧ rd l i ≤ 20
      · rw [if_pos (by simpa using e), w64n (by omega), ih (i + 1) n (by omega) (by omega) (by omega)]
        simp [plotB, e]
      · rw [if_neg (by simpa using e)]
        simp only [plotB, e, decide_false, Bool.false_and]
theorem l06Is_f {k : Nat} {l : List Int} (hk : 2097152 ≤ k) (hl : l.length ≤ 1048576) : spec_l06Is.f k l = some (isG l) := by
  unfold spec_l06Is.f spec_l06Is.g
  have := l06Is_loop (k := k) hl l.length 0 k (by omega) (by omega) (by omega)
  exact this.trans (by rw [List.drop_zero, isG, Bool.and_comm])
theorem areAll_garden {k : Nat} {l : List Int} (hk : 2097152 ≤ k) (hl : l.length ≤ 1048576) : impl_areAll_int64_impl_IsGarden_1.f k l () = some (l.all plotB) := by
  obtain ⟨j, h1, h2⟩ := idx_run (L := slices_IndexFunc_int64_int64_impl_areAll_int64_1_impl_IsGarden_1.l0 k) (p := fun x => !plotB x) (l := l) (c := ())
    (fun n i hi => by
      simp only [slices_IndexFunc_int64_int64_impl_areAll_int64_1_impl_IsGarden_1.l0, slices_IndexFunc_int64_int64_impl_areAll_int64_1_impl_IsGarden_1.s0]
      rw [if_pos (by omega), if_pos (by omega), if_pos (by omega)]
      simp only [impl_areAll_int64_1_impl_IsGarden_1.f, impl_IsGarden_1.f, within_f, Option.bind_some, plotB, w64n (show i ≤ 9223372036854775806 by omega)]
      by_cases h : 1 ≤ rd l i ∧ rd l i ≤ 20 <;> simp [h])
    (fun n => by
      simp only [slices_IndexFunc_int64_int64_impl_areAll_int64_1_impl_IsGarden_1.l0, slices_IndexFunc_int64_int64_impl_areAll_int64_1_impl_IsGarden_1.s0]
      rw [if_neg (by omega)]) l.length 0 k (by omega) (by omega) (by omega)
  unfold impl_areAll_int64_impl_IsGarden_1.f slices_ContainsFunc_int64_int64_impl_areAll_int64_1_impl_IsGarden_1.f slices_IndexFunc_int64_int64_impl_areAll_int64_1_impl_IsGarden_1.f slices_IndexFunc_int64_int64_impl_areAll_int64_1_impl_IsGarden_1.g
  rw [show slices_IndexFunc_int64_int64_impl_areAll_int64_1_impl_IsGarden_1.l0 k k l () l.length 0 = some j from h1, Option.bind_some, Option.bind_some]
  rw [List.drop_zero] at h2
  congr 1
  exact all_iff (p := fun x => !plotB x) (fun _ => rfl) h2
theorem isGarden_f {k : Nat} {l : List Int} (hk : 2097152 ≤ k) (hl : l.length ≤ 1048576) : impl_IsGarden.f k l = some (isG l) := by
  unfold impl_IsGarden.f
  simp only [length_f, within_f, Option.bind_some, areAll_garden hk hl]
  unfold isG
  by_cases h : 1 ≤ l.length ∧ l.length ≤ 8
  · rw [if_pos (by simp; omega)]; simp [h]
  · rw [if_neg (by simp; omega)]; simp [h]
theorem gardenCode_f {k : Nat} {l : List Int} (hk : 2097152 ≤ k) (hl : l.length ≤ 1048576) (b : Bool) : impl_gardenCode.f k l b = some (if isG l then (if b then 0 else 2) else 1) := by
  unfold impl_gardenCode.f
  rw [isGarden_f hk hl, Option.bind_some]
  cases isG l <;> cases b <;> rfl
def Plots (l : List Int) : Prop := ∀ g ∈ l, 1 ≤ g ∧ g ≤ 20
theorem plots_sum : ∀ {l : List Int}, Plots l → 0 ≤ l.sum ∧ l.sum ≤ 20 * l.length
  | [], _ => by simp
  | g :: l, h => by
    have h1 := h g (by simp)
    have h2 := plots_sum (l := l) fun x hx => h x (by simp [hx])
    simp only [List.sum_cons, List.length_cons]
    omega
theorem plots_le : ∀ {l : List Int}, Plots l → ∀ g ∈ l, g ≤ l.sum
  | [], _, g, hg => by simp at hg
  | a :: l, h, g, hg => by
    have h1 := h a (by simp)
    have h3 := plots_sum (l := l) fun x hx => h x (by simp [hx])
    simp only [List.sum_cons]
    rcases List.mem_cons.1 hg with rfl | hg
    · omega
    · have := plots_le (l := l) (fun x hx => h x (by simp [hx])) g hg
      omega
theorem l06Sum_loop {k : Nat} {l : List Int} (hl : l.length ≤ 8) (hp : Plots l) : ∀ (d i n : Nat) (s m : Int), l.length - i = d → i ≤ l.length → d < n → 0 ≤ s → s ≤ 20 * i →
    ∃ m', spec_l06Sum.l0 k n l s m i = some (s + (l.drop i).sum, m') := by
  intro d
  induction d with
  | zero =>
    intro i n s m hd hi hn h0 h1
    cases n with
    | zero => omega
    | succ n =>
      simp only [spec_l06Sum.l0, spec_l06Sum.s0]
      rw [if_neg (by omega), List.drop_eq_nil_of_le (by omega)]
      exact ⟨m, by simp⟩
  | succ d ih =>
    intro i n s m hd hi hn h0 h1
    cases n with
    | zero => omega
    | succ n =>
      simp only [spec_l06Sum.l0, spec_l06Sum.s0]
      have hr := hp _ (rd_mem (l := l) (i := i) (by omega))
      rw [if_pos (by omega), if_pos (by omega), if_pos (by omega), if_pos (by omega), if_pos (by omega), w64n (by omega), w64 (by omega) (by omega), drop_cons (by omega)]
      obtain ⟨m', h⟩ := ih (i + 1) n (s + rd l i) (maxV m (rd l i)) (by omega) (by omega) (by omega) (by omega) (by omega)
      exact ⟨m', by rw [h, List.sum_cons, Int.add_assoc]⟩
theorem l06Sum_f {k : Nat} {l : List Int} (hk : 2097152 ≤ k) (hl : l.length ≤ 8) (hp : Plots l) : ∃ m, spec_l06Sum.f k l = some (l.sum, m) := by
  unfold spec_l06Sum.f spec_l06Sum.g
  obtain ⟨m, h⟩ := l06Sum_loop (k := k) hl hp l.length 0 k 0 0 (by omega) (by omega) (by omega) (by omega) (by omega)
  exact ⟨m, h.trans (by simp)⟩
theorem sum_loop {k : Nat} {l : List Int} (hl : l.length ≤ 8) (hp : Plots l) : ∀ (d i n : Nat) (s : Int), l.length - i = d → i ≤ l.length → d < n → 0 ≤ s → s ≤ 20 * i →
    impl_Garden_sum.l0 k n s l l.length i = some (s + (l.drop i).sum) := by
  intro d
  induction d with
  | zero =>
    intro i n s hd hi hn h0 h1
    cases n with
    | zero => omega
    | succ n =>
      simp only [impl_Garden_sum.l0, impl_Garden_sum.s0]
      rw [if_neg (by omega), List.drop_eq_nil_of_le (by omega)]
      simp
  | succ d ih =>
    intro i n s hd hi hn h0 h1
    cases n with
    | zero => omega
    | succ n =>
      simp only [impl_Garden_sum.l0, impl_Garden_sum.s0]
      have hr := hp _ (rd_mem (l := l) (i := i) (by omega))
      rw [if_pos (by omega), if_pos (by omega), if_pos (by omega), w64n (by omega), w64 (by omega) (by omega), drop_cons (by omega), ih (i + 1) n _ (by omega) (by omega) (by omega) (by omega) (by omega), List.sum_cons, Int.add_assoc]
theorem sum_f {k : Nat} {l : List Int} (hk : 2097152 ≤ k) (hl : l.length ≤ 8) (hp : Plots l) : impl_Garden_sum.f k l = some l.sum := by
  unfold impl_Garden_sum.f impl_Garden_sum.g
  exact (sum_loop (k := k) hl hp l.length 0 k 0 (by omega) (by omega) (by omega) (by omega) (by omega)).trans (by simp)
def towT (l : List Int) (x : Int) : List Int := l.map fun a => x / a
theorem tdiv_pos {x a : Int} (h0 : 0 ≤ x) : wrap64 (Int.tdiv x a) = wrap64 (x / a) := by rw [Int.tdiv_eq_ediv_of_nonneg h0]
theorem div_bnd {x a : Int} (h0 : a ≤ x) (h1 : 1 ≤ a) : 1 ≤ x / a ∧ x / a ≤ x :=
  ⟨(Int.le_ediv_iff_mul_le (by omega)).2 (by omega), Int.ediv_le_self _ (by omega)⟩
theorem l06Tasks_loop {k : Nat} {l : List Int} {x : Int} (hl : l.length ≤ 8) (hp : Plots l) (hx : ∀ g ∈ l, g ≤ x) (h0 : 0 ≤ x) (h1 : x ≤ 1000) : ∀ (d i n : Nat) (out : List Int), l.length - i = d → i ≤ l.length → d < n → out.length = i →
    spec_l06Tasks.l0 k n x l out i = some (if (towT (l.drop i) x).all (fun g => decide (g ≤ 40)) = true then (out ++ towT (l.drop i) x, true) else ([], false)) := by
  intro d
  induction d with
  | zero =>
    intro i n out hd hi hn ho
    cases n with
    | zero => omega
    | succ n =>
      simp only [spec_l06Tasks.l0, spec_l06Tasks.s0]
      rw [if_neg (by omega), List.drop_eq_nil_of_le (by omega)]
      simp [towT]
  | succ d ih =>
    intro i n out hd hi hn ho
    cases n with
    | zero => omega
    | succ n =>
      simp only [spec_l06Tasks.l0, spec_l06Tasks.s0]
      have hm := rd_mem (l := l) (i := i) (by omega)
      have hr := hp _ hm
      have hb := div_bnd (hx _ hm) hr.1
      rw [if_pos (by omega), if_pos (by omega), if_pos (by omega), if_neg (by omega), tdiv_pos h0, w64 (by omega) (by omega), w64n (by omega), drop_cons (by omega)]
      by_cases h : 40 < x / rd l i
      · rw [if_pos h, if_neg (by simp [towT]; omega)]
      · rw [if_neg h, if_pos (by omega), ih (i + 1) n _ (by omega) (by omega) (by omega) (by simp; omega)]
        have : x / rd l i ≤ 40 := by omega
        simp [towT, this]
theorem l06Tasks_f {k : Nat} {l : List Int} {x : Int} (hk : 2097152 ≤ k) (hl : l.length ≤ 8) (hp : Plots l) (hx : ∀ g ∈ l, g ≤ x) (h0 : 0 ≤ x) (h1 : x ≤ 1000) :
    spec_l06Tasks.f k l x = some (if (towT l x).all (fun g => decide (g ≤ 40)) = true then (towT l x, true) else ([], false)) := by
  unfold spec_l06Tasks.f spec_l06Tasks.g
  exact l06Tasks_loop (k := k) hl hp hx h0 h1 l.length 0 k [] (by omega) (by omega) (by omega) rfl
theorem tasks_loop {k : Nat} {l : List Int} {x : Int} (hl : l.length ≤ 8) (hp : Plots l) (hx : ∀ g ∈ l, g ≤ x) (h0 : 0 ≤ x) (h1 : x ≤ 1000) : ∀ (d i n : Nat) (out : List Int), l.length - i = d → i ≤ l.length → d < n → out.length = i →
    impl_Garden_tasks.l0 k n x out l l.length i = some (out ++ towT (l.drop i) x) := by
  intro d
  induction d with
  | zero =>
    intro i n out hd hi hn ho
    cases n with
    | zero => omega
    | succ n =>
      simp only [impl_Garden_tasks.l0, impl_Garden_tasks.s0]
      rw [if_neg (by omega), List.drop_eq_nil_of_le (by omega)]
      simp [towT]
  | succ d ih =>
    intro i n out hd hi hn ho
    cases n with
    | zero => omega
    | succ n =>
      simp only [impl_Garden_tasks.l0, impl_Garden_tasks.s0]
      have hm := rd_mem (l := l) (i := i) (by omega)
      have hr := hp _ hm
      have hb := div_bnd (hx _ hm) hr.1
      rw [if_pos (by omega), if_pos (by omega), if_pos (by omega), if_neg (by omega), if_pos (by omega), tdiv_pos h0, w64 (by omega) (by omega), w64n (by omega), drop_cons (by omega), ih (i + 1) n _ (by omega) (by omega) (by omega) (by simp; omega)]
      simp [towT]
theorem tasks_f {k : Nat} {l : List Int} {x : Int} (hk : 2097152 ≤ k) (hl : l.length ≤ 8) (hp : Plots l) (hx : ∀ g ∈ l, g ≤ x) (h0 : 0 ≤ x) (h1 : x ≤ 1000) : impl_Garden_tasks.f k l x = some (towT l x) := by
  unfold impl_Garden_tasks.f impl_Garden_tasks.g
  exact tasks_loop (k := k) hl hp hx h0 h1 l.length 0 k [] (by omega) (by omega) (by omega) rfl
theorem towT_len (l : List Int) (x : Int) : (towT l x).length = l.length := by simp [towT]
theorem towT_isT {l : List Int} {x : Int} (hl : 1 ≤ l.length ∧ l.length ≤ 8) (hp : Plots l) (hx : ∀ g ∈ l, g ≤ x) : isT (towT l x) = (towT l x).all (fun g => decide (g ≤ 40)) := by
  unfold isT
  rw [towT_len, decide_eq_true hl, Bool.true_and]
  rw [Bool.eq_iff_iff]
  simp only [List.all_eq_true, towT, List.mem_map, gapB, decide_eq_true_eq]
  constructor
  · intro h g hg; exact (h g hg).2
  · rintro h g ⟨a, ha, rfl⟩
    exact ⟨(div_bnd (hx a ha) (hp a ha).1).1, h _ ⟨a, ha, rfl⟩⟩
def tower (l : List Int) : Nat → Int → Int × Int
  | 0, _ => (0, 3)
  | d + 1, x => if isT (towT l x) = true then (if 4000 < cnt (towT l x) then (0, 3) else if (canR (towT l x)).1 = true then (x, 0) else tower l d (x + 1)) else (0, 3)
theorem tower_far {l : List Int} {x : Int} (hl : 1 ≤ l.length) (hp : Plots l) (h : 820 ≤ x) : isT (towT l x) = false := by
  cases hb : isT (towT l x) with
  | false => rfl
  | true =>
    cases l with
    | nil => simp at hl
    | cons a l =>
      have h1 := (isT_iff.1 hb).2 (x / a) (by simp [towT])
      have h2 := hp a (by simp)
      have := (Int.le_ediv_iff_mul_le (a := 41) (b := x) (c := a) (by omega)).2 (by omega)
      omega
theorem canR_few {G : List Int} (h : isT G = true) (hc : cnt G ≤ 4000) : (canR G).1 = (lasting G).getD (cnt G - 1).toNat false := by
  unfold canR
  rw [if_pos (by unfold few; rw [if_pos h, if_neg (by omega)])]
theorem spec_tower {k : Nat} {l : List Int} (hk : 2097152 ≤ k) (hl : 1 ≤ l.length ∧ l.length ≤ 8) (hp : Plots l) : ∀ (d n : Nat) (x : Int), 820 ≤ x + d → x ≤ 821 → d < n → (∀ g ∈ l, g ≤ x) → 0 ≤ x →
    spec_LeastTower.l0 k n l x = some (tower l d x) := by
  intro d
  induction d with
  | zero =>
    intro n x hd hx1 hn hx h0
    cases n with
    | zero => omega
    | succ n =>
      simp only [spec_LeastTower.l0, spec_LeastTower.s0]
      rw [l06Tasks_f hk hl.2 hp hx h0 (by omega), ← towT_isT hl hp hx, tower_far hl.1 hp (by omega), if_neg (by simp), Option.bind_some]
      rfl
  | succ d ih =>
    intro n x hd hx1 hn hx h0
    cases n with
    | zero => omega
    | succ n =>
      simp only [spec_LeastTower.l0, spec_LeastTower.s0]
      rw [l06Tasks_f hk hl.2 hp hx h0 (by omega), ← towT_isT hl hp hx]
      simp only [tower]
      cases hb : isT (towT l x) with
      | false => rw [if_neg (by simp), Option.bind_some]; rfl
      | true =>
        have hxx : x < 820 := by
          by_cases e : x < 820
          · exact e
          · rw [tower_far hl.1 hp (by omega)] at hb; cases hb
        simp only [if_true, Option.bind_some]
        rw [l02Count_f hk hb, Option.bind_some]
        by_cases hc : 4000 < cnt (towT l x)
        · rw [if_pos hc, if_pos hc]
        · rw [if_neg hc, if_neg hc, l02Can_f hk hb (by omega), Option.bind_some, canR_few hb (by omega)]
          by_cases hs : (lasting (towT l x)).getD (cnt (towT l x) - 1).toNat false = true
          · rw [if_pos hs, if_pos hs]
          · rw [if_neg hs, if_neg hs, w64 (by omega) (by omega), ih n (x + 1) (by omega) (by omega) (by omega) (fun g hg => by have := hx g hg; omega) (by omega)]
theorem impl_tower {k : Nat} {l : List Int} (hk : 2097152 ≤ k) (hl : 1 ≤ l.length ∧ l.length ≤ 8) (hp : Plots l) : ∀ (d n : Nat) (x : Int), 820 ≤ x + d → x ≤ 821 → d < n → (∀ g ∈ l, g ≤ x) → 0 ≤ x →
    impl_LeastTower.l0 k n l x = some (tower l d x) := by
  intro d
  induction d with
  | zero =>
    intro n x hd hx1 hn hx h0
    cases n with
    | zero => omega
    | succ n =>
      simp only [impl_LeastTower.l0, impl_LeastTower.s0]
      rw [tasks_f hk hl.2 hp hx h0 (by omega), Option.bind_some, isTasks_f hk (by rw [towT_len]; omega), tower_far hl.1 hp (by omega), Option.bind_some]
      rfl
  | succ d ih =>
    intro n x hd hx1 hn hx h0
    cases n with
    | zero => omega
    | succ n =>
      simp only [impl_LeastTower.l0, impl_LeastTower.s0]
      rw [tasks_f hk hl.2 hp hx h0 (by omega), Option.bind_some, isTasks_f hk (by rw [towT_len]; omega)]
      simp only [tower]
      cases hb : isT (towT l x) with
      | false => rfl
      | true =>
        have hxx : x < 820 := by
          by_cases e : x < 820
          · exact e
          · rw [tower_far hl.1 hp (by omega)] at hb; cases hb
        simp only [if_true, Option.bind_some]
        rw [states_f hk hb, Option.bind_some]
        by_cases hc : 4000 < cnt (towT l x)
        · rw [if_pos hc, if_pos hc]
        · rw [if_neg hc, if_neg hc, impl_CanServe_f hk (by rw [towT_len]; omega), Option.bind_some]
          by_cases hs : (canR (towT l x)).1 = true
          · rw [if_pos hs, if_pos hs]
          · rw [if_neg hs, if_neg hs, w64 (by omega) (by omega), ih n (x + 1) (by omega) (by omega) (by omega) (fun g hg => by have := hx g hg; omega) (by omega)]
def towerR (l : List Int) : Int × Int := if isG l = true then tower l 820 l.sum else (0, 1)
theorem spec_LeastTower_f {k : Nat} {l : List Int} (hk : 2097152 ≤ k) (hl : l.length ≤ 1048576) : spec_LeastTower.f k l = some (towerR l) := by
  unfold spec_LeastTower.f spec_LeastTower.g towerR
  rw [l06Is_f hk hl, Option.bind_some]
  by_cases h : isG l = true
  · obtain ⟨h1, h2⟩ := isG_iff.1 h
    have hs := plots_sum h2
    obtain ⟨m, hm⟩ := l06Sum_f hk h1.2 h2
    rw [if_pos h, if_pos h, hm, Option.bind_some]
    exact spec_tower hk h1 h2 820 k l.sum (by omega) (by omega) (by omega) (plots_le h2) hs.1
  · rw [if_neg h, if_neg h]
theorem impl_LeastTower_f {k : Nat} {l : List Int} (hk : 2097152 ≤ k) (hl : l.length ≤ 1048576) : impl_LeastTower.f k l = some (towerR l) := by
  unfold impl_LeastTower.f impl_LeastTower.g towerR
  rw [gardenCode_f hk hl, Option.bind_some]
  by_cases h : isG l = true
  · obtain ⟨h1, h2⟩ := isG_iff.1 h
    have hs := plots_sum h2
    rw [if_pos h, if_pos h, if_pos (by simp), sum_f hk h1.2 h2, Option.bind_some]
    exact impl_tower hk h1 h2 820 k l.sum (by omega) (by omega) (by omega) (plots_le h2) hs.1
  · rw [if_neg h, if_neg h, if_neg (by omega)]
def Gv {α : Type} (o : Option α) (Q : α → Prop) : Prop := ∃ b, o = some b ∧ Q b
theorem Gv.ok {α : Type} {b : α} {Q : α → Prop} (h : Q b) : Gv (some b) Q := ⟨b, rfl, h⟩
theorem Gv.bind {α β : Type} {o : Option α} {f : α → Option β} {P : α → Prop} {Q : β → Prop} (h : Gv o P) (hf : ∀ r, P r → Gv (f r) Q) : Gv (o.bind f) Q := by
  obtain ⟨r, rfl, hr⟩ := h
  exact hf r hr
theorem Gv.pos {α : Type} {p : Prop} [Decidable p] {o o' : Option α} {Q : α → Prop} (hp : p) (h : Gv o Q) : Gv (if p then o else o') Q := by rw [if_pos hp]; exact h
theorem Gv.neg {α : Type} {p : Prop} [Decidable p] {o o' : Option α} {Q : α → Prop} (hp : ¬p) (h : Gv o' Q) : Gv (if p then o else o') Q := by rw [if_neg hp]; exact h
theorem Gv.ite {α : Type} {p : Prop} [Decidable p] {o o' : Option α} {Q : α → Prop} (h1 : p → Gv o Q) (h2 : ¬p → Gv o' Q) : Gv (if p then o else o') Q := by
  by_cases hp : p
  · exact Gv.pos hp (h1 hp)
  · exact Gv.neg hp (h2 hp)
theorem Gv.mono {α : Type} {o : Option α} {P Q : α → Prop} (h : Gv o P) (hf : ∀ r, P r → Q r) : Gv o Q := by
  obtain ⟨r, e, hr⟩ := h
  exact ⟨r, e, hf r hr⟩
abbrev SrcT := List Int × Int × Int
structure Src (s : SrcT) : Prop where
  bytes : ∀ x ∈ s.1, 0 ≤ x ∧ x ≤ 255
  len : s.1.length ≤ 4096
  t0 : 0 ≤ s.2.1
theorem mask_range (a : Int) : 0 ≤ andV .u64 a 16777215 ∧ andV .u64 a 16777215 ≤ 16777215 := by
  rw [andV_eq]
  have h : (BitVec.ofInt IntKind.u64.bits a &&& BitVec.ofInt IntKind.u64.bits 16777215).toNat ≤ 16777215 := by
    rw [BitVec.toNat_and]
    refine Nat.le_trans Nat.and_le_right ?_
    decide
  generalize (BitVec.ofInt IntKind.u64.bits a &&& BitVec.ofInt IntKind.u64.bits 16777215).toNat = n at h
  show 0 ≤ IntKind.u64.wrap (n : Int) ∧ IntKind.u64.wrap (n : Int) ≤ 16777215
  have e : IntKind.u64.wrap (n : Int) = (n : Int) % 18446744073709551616 := by simp [IntKind.wrap, IntKind.bits, IntKind.signed]
  rw [e]; omega
def Nx (n : Int) (r : Int × SrcT) : Prop := Src r.2 ∧ (n < 1 → r.1 = 0) ∧ (1 ≤ n → 0 ≤ r.1 ∧ r.1 < n)
theorem next_ok {s : SrcT} (S : Src s) (n : Int) : Gv (spec_l01Next.f s n) (Nx n) := by
  unfold spec_l01Next.f
  by_cases c1 : n < 1
  · exact Gv.pos c1 (Gv.ok ⟨S, fun _ => rfl, fun h => by omega⟩)
  rw [if_neg c1]
  have hm := mask_range (shrV .u64 (IntKind.wrap .u64 ((IntKind.wrap .u64 (s.2.2 * 6364136223846793005)) + 1442695040888963407)) 33)
  generalize andV .u64 (shrV .u64 (IntKind.wrap .u64 ((IntKind.wrap .u64 (s.2.2 * 6364136223846793005)) + 1442695040888963407)) 33) 16777215 = x at hm ⊢
  rw [w64 (x := x) (by omega) (by omega)]
  have td : ∀ y : Int, 0 ≤ y → 0 ≤ Int.tmod y n ∧ Int.tmod y n < n := by
    intro y hy
    rw [Int.tmod_eq_emod_of_nonneg hy]
    exact ⟨Int.emod_nonneg _ (by omega), Int.emod_lt_of_pos _ (by omega)⟩
  have h0 := S.t0
  have hl := S.len
  by_cases c2 : s.2.1 < (s.1.length : Int)
  · have hb := S.bytes (rd s.1 s.2.1) (by
      obtain ⟨k, hk⟩ := Int.eq_ofNat_of_zero_le h0
      rw [hk]
      exact rd_mem (by omega))
    rw [if_pos c2, if_pos h0, if_pos c2, if_neg (by omega), w64 (x := rd s.1 s.2.1) (by omega) (by omega), w64 (x := x + rd s.1 s.2.1) (by omega) (by omega), w64 (x := s.2.1 + 1) (by omega) (by omega)]
    exact Gv.ok ⟨⟨S.bytes, S.len, by simp only; omega⟩, fun h => absurd h c1, fun _ => td _ (by omega)⟩
  · rw [if_neg c2, if_neg (by omega)]
    exact Gv.ok ⟨⟨S.bytes, S.len, S.t0⟩, fun h => absurd h c1, fun _ => td _ (by omega)⟩
theorem pick_ok {s : SrcT} (S : Src s) (l : List Int) (hl : 1 ≤ l.length) : Gv (spec_l01Pick.f s l) fun r => Src r.2 ∧ r.1 ∈ l := by
  unfold spec_l01Pick.f
  refine Gv.bind (next_ok S (l.length : Int)) fun r hr => ?_
  obtain ⟨h1, h2⟩ := hr.2.2 (by omega)
  refine Gv.pos h1 (Gv.pos h2 (Gv.ok ⟨hr.1, ?_⟩))
  obtain ⟨k, hk⟩ := Int.eq_ofNat_of_zero_le h1
  show rd l r.1 ∈ l
  rw [hk]
  exact rd_mem (by omega)
theorem drawNear_ok {s : SrcT} (S : Src s) (m : Int) : Gv (spec_l01Near.f s m) fun r => Src r.2 := by
  unfold spec_l01Near.f
  refine Gv.bind (next_ok S 14) fun r hr => Gv.ite (fun _ => ?_) fun _ => ?_
  · exact Gv.bind (pick_ok hr.1 _ (by simp)) fun q hq => Gv.ok hq.1
  · exact Gv.bind (next_ok hr.1 _) fun q hq => Gv.ok hq.1
theorem own_ok (l : List Int) (h : l.length ≤ 1048576) : spec_l01Own.f l = some l := by
  unfold spec_l01Own.f
  rw [if_pos (by omega)]; rfl
theorem from_ok {k : Nat} (hk : 2097152 ≤ k) {c : List Int} (hb : ∀ x ∈ c, 0 ≤ x ∧ x ≤ 255) (hl : c.length ≤ 4096) : Gv (spec_l01From.f k c) Src := by
  have key : ∀ (d i n : Nat) (h : Int), c.length - i = d → i ≤ c.length → d < n → Gv (spec_l01From.l0 k n c c 0 h i) Src := by
    intro d
    induction d with
    | zero =>
      intro i n h hd hi hn
      cases n with
      | zero => omega
      | succ n =>
        simp only [spec_l01From.l0, spec_l01From.s0]
        exact Gv.neg (by omega) (Gv.ok ⟨hb, hl, by simp⟩)
    | succ d ih =>
      intro i n h hd hi hn
      cases n with
      | zero => omega
      | succ n =>
        simp only [spec_l01From.l0, spec_l01From.s0]
        refine Gv.pos (by omega) (Gv.pos (by omega) (Gv.pos (by omega) (Gv.pos (by omega) ?_)))
        rw [w64n (by omega)]
        exact ih (i + 1) n _ (by omega) (by omega) (by omega)
  unfold spec_l01From.f spec_l01From.g
  exact key c.length 0 k _ (by omega) (by omega) (by omega)
theorem bytes_of {c : List Int} (h : ∀ a : Int, List.Mem a c → (Lit.int .u8 a).wf = true) : ∀ x ∈ c, 0 ≤ x ∧ x ≤ 255 := by
  intro x hx
  have := h x hx
  simp only [Lit.wf, Bool.and_eq_true, decide_eq_true_eq] at this
  exact ⟨by have := this.1; simpa [IntKind.min, IntKind.signed, IntKind.bits] using this, by have := this.2; simpa [IntKind.max, IntKind.signed, IntKind.bits] using this⟩
theorem rd_app1 (P : List Int) (x : Int) (j : Nat) : rd (P ++ [x]) j = if j < P.length then rd P j else if j = P.length then x else 0 := by
  rw [rd_nat, rd_nat, List.getD_eq_getElem?_getD, List.getD_eq_getElem?_getD]
  by_cases h : j < P.length
  · rw [if_pos h, List.getElem?_append_left h]
  · rw [if_neg h, List.getElem?_append_right (by omega)]
    by_cases e : j = P.length
    · rw [if_pos e, e]; simp
    · rw [if_neg e, List.getElem?_eq_none (by simp; omega)]; rfl
structure Turn (cs : List Int) (t g : Int) (X : Nat → Int) : Prop where
  st : ∀ j : Nat, j < cs.length → X (j + 1) = if rd cs j = t then g else X j - 1
  bd : ∀ j : Nat, j ≤ cs.length → 1 ≤ X j ∧ X j ≤ g
  ret : X cs.length = X 0
structure PlI (t g : Int) (X : Nat → Int) (i : Nat) (P : List Int) : Prop where
  len : P.length ≤ i
  el : ∀ j : Nat, j < P.length → 0 ≤ rd P j ∧ rd P j < i
  df : ∀ j : Nat, j + 1 < P.length → rd P ((j + 1 : Nat) : Int) - rd P j ≤ g
  no : P.length = 0 → X i = X 0 - i
  la : 1 ≤ P.length → X i = g - (i - rd P ((P.length - 1 : Nat) : Int) - 1)
  fi : 1 ≤ P.length → X (rd P ((0 : Nat) : Int)).toNat = X 0 - rd P ((0 : Nat) : Int)
theorem PlI.skip {cs : List Int} {t g : Int} {X : Nat → Int} (T : Turn cs t g X) {i : Nat} {P : List Int} (I : PlI t g X i P) (hi : i < cs.length) (h : ¬ rd cs i = t) : PlI t g X (i + 1) P := by
  have hs := T.st i hi
  rw [if_neg h] at hs
  have hl := I.len
  refine ⟨by omega, fun j hj => ?_, I.df, fun h0 => ?_, fun h1 => ?_, I.fi⟩
  · have := I.el j hj; omega
  · have := I.no h0; rw [hs, this]; push_cast; omega
  · have := I.la h1; rw [hs, this]; push_cast; omega
theorem PlI.take {cs : List Int} {t g : Int} {X : Nat → Int} (T : Turn cs t g X) {i : Nat} {P : List Int} (I : PlI t g X i P) (hi : i < cs.length) (h : rd cs i = t) : PlI t g X (i + 1) (P ++ [(i : Int)]) := by
  have hs := T.st i hi
  rw [if_pos h] at hs
  have hb := T.bd i (by omega)
  have hl := I.len
  have e1 : (P ++ [(i : Int)]).length = P.length + 1 := by simp
  refine ⟨by omega, fun j hj => ?_, fun j hj => ?_, fun h0 => by omega, fun h1 => ?_, fun h1 => ?_⟩
  · rw [rd_app1]
    split
    · rename_i hlt; have := I.el j hlt; omega
    · rw [if_pos (by omega)]; omega
  · rw [rd_app1, rd_app1]
    by_cases c : j + 1 < P.length
    · rw [if_pos c, if_pos (by omega)]; exact I.df j c
    · have hj' : j + 1 = P.length := by omega
      rw [if_neg c, if_pos hj', if_pos (by omega)]
      have := I.la (by omega)
      rw [show P.length - 1 = j by omega] at this
      omega
  · rw [e1, show P.length + 1 - 1 = P.length by omega, rd_app1, if_neg (by omega), if_pos rfl, hs]; push_cast; omega
  · rw [rd_app1]
    by_cases c : 0 < P.length
    · rw [if_pos c]; exact I.fi (by omega)
    · rw [if_neg c, if_pos (by omega), Int.toNat_natCast]
      exact I.no (by omega)
theorem waits_l1 {k : Nat} {cs P : List Int} {t g : Int} {X : Nat → Int} (T : Turn cs t g X) (hn : cs.length ≤ 1048576) (I : PlI t g X cs.length P) (hP : 1 ≤ P.length) : ∀ (d j n : Nat) (out : List Int), P.length - j = d → j ≤ P.length → out.length = j → (∀ x ∈ out, x ≤ g) → d < n →
    Gv (impl_waits.l1 k n cs P out P.length j) fun w => 1 ≤ w.length ∧ w.length ≤ 1048576 ∧ ∀ x ∈ w, x ≤ g := by
  have hl := I.len
  intro d
  induction d with
  | zero =>
    intro j n out hd hj ho hout hn'
    cases n with
    | zero => omega
    | succ n =>
      simp only [impl_waits.l1, impl_waits.s1]
      exact Gv.neg (by omega) (Gv.ok ⟨by omega, by omega, hout⟩)
  | succ d ih =>
    intro j n out hd hj ho hout hn'
    cases n with
    | zero => omega
    | succ n =>
      simp only [impl_waits.l1, impl_waits.s1]
      rw [w64n (by omega)]
      have hj' := I.el j (by omega)
      refine Gv.pos (by omega) (Gv.pos (by omega) (Gv.pos (by omega) ?_))
      have app : ∀ y : Int, y ≤ g → ∀ x ∈ out ++ [y], x ≤ g := by
        intro y hy x hx
        rcases List.mem_append.1 hx with hx | hx
        · exact hout x hx
        · simp only [List.mem_singleton] at hx; omega
      by_cases c : j + 1 < P.length
      · have h1 := I.el (j + 1) c
        have h2 := I.df j c
        refine Gv.pos (by omega) (Gv.pos (by omega) (Gv.pos (by omega) (Gv.pos (by omega) ?_)))
        rw [w64 (x := rd P ((j + 1 : Nat) : Int) - rd P j) (by omega) (by omega)]
        exact ih (j + 1) n _ (by omega) (by omega) (by simp; omega) (app _ h2) (by omega)
      · have h1 := I.el 0 (by omega)
        have h2 := I.la hP
        have h3 := I.fi hP
        have h4 := T.ret
        have h5 := T.bd (rd P ((0 : Nat) : Int)).toNat (by omega)
        rw [show P.length - 1 = j by omega] at h2
        refine Gv.neg (by omega) (Gv.pos (by omega) ?_)
        rw [length_f, Option.bind_some]
        refine Gv.pos (by omega) ?_
        have e0 : rd P 0 = rd P ((0 : Nat) : Int) := rfl
        rw [e0, w64 (x := rd P ((0 : Nat) : Int) + cs.length) (by omega) (by omega), w64 (x := rd P ((0 : Nat) : Int) + cs.length - rd P j) (by omega) (by omega)]
        exact ih (j + 1) n _ (by omega) (by omega) (by simp; omega) (app _ (by omega)) (by omega)
theorem waits_f {k : Nat} {cs : List Int} {t g : Int} {X : Nat → Int} (hk : 2097152 ≤ k) (T : Turn cs t g X) (h1 : 1 ≤ cs.length) (hn : cs.length ≤ 1048576) : Gv (impl_waits.f k cs t) fun w => 1 ≤ w.length ∧ w.length ≤ 1048576 ∧ ∀ x ∈ w, x ≤ g := by
  have key : ∀ (d i n : Nat) (P : List Int), cs.length - i = d → i ≤ cs.length → PlI t g X i P → d < n → Gv (impl_waits.l0 k n cs t P cs cs.length i) fun w => 1 ≤ w.length ∧ w.length ≤ 1048576 ∧ ∀ x ∈ w, x ≤ g := by
    intro d
    induction d with
    | zero =>
      intro i n P hd hi I hn'
      obtain rfl : i = cs.length := by omega
      cases n with
      | zero => omega
      | succ n =>
        simp only [impl_waits.l0, impl_waits.s0]
        refine Gv.neg (by omega) ?_
        have hl := I.len
        have hP : 1 ≤ P.length := by
          by_cases c : P.length = 0
          · have := I.no c; have := T.ret; omega
          · omega
        exact waits_l1 T hn I hP P.length 0 k [] (by omega) (by omega) rfl (by simp) (by omega)
    | succ d ih =>
      intro i n P hd hi I hn'
      cases n with
      | zero => omega
      | succ n =>
        have hl := I.len
        simp only [impl_waits.l0, impl_waits.s0]
        rw [w64n (by omega)]
        refine Gv.pos (by omega) (Gv.pos (by omega) (Gv.pos (by omega) (Gv.ite (fun c => Gv.pos (by omega) ?_) fun c => ?_)))
        · exact ih (i + 1) n _ (by omega) (by omega) (I.take T (by omega) c) (by omega)
        · exact ih (i + 1) n _ (by omega) (by omega) (I.skip T (by omega) c) (by omega)
  unfold impl_waits.f impl_waits.g
  exact key cs.length 0 k [] (by omega) (by omega) ⟨by simp, fun j hj => by simp at hj, fun j hj => by simp at hj, fun _ => by simp, fun h => by simp at h, fun h => by simp at h⟩ (by omega)
theorem greatest_le {k : Nat} {w : List Int} {g : Int} (hk : 2097152 ≤ k) (hw : w.length ≤ 1048576) (hg : 0 ≤ g) (h : ∀ x ∈ w, x ≤ g) : Gv (impl_greatest.f k w) fun r => r ≤ g := by
  have key : ∀ (d i n : Nat) (x : Int), w.length - i = d → i ≤ w.length → x ≤ g → d < n → Gv (impl_greatest.l0 k n x w w.length i) fun r => r ≤ g := by
    intro d
    induction d with
    | zero =>
      intro i n x hd hi hx hn
      cases n with
      | zero => omega
      | succ n =>
        simp only [impl_greatest.l0, impl_greatest.s0]
        exact Gv.neg (by omega) (Gv.ok hx)
    | succ d ih =>
      intro i n x hd hi hx hn
      cases n with
      | zero => omega
      | succ n =>
        simp only [impl_greatest.l0, impl_greatest.s0]
        rw [w64n (by omega)]
        have := h _ (rd_mem (l := w) (i := i) (by omega))
        refine Gv.pos (by omega) (Gv.pos (by omega) (Gv.pos (by omega) (ih (i + 1) n _ (by omega) (by omega) ?_ (by omega))))
        unfold maxV; split <;> omega
  unfold impl_greatest.f impl_greatest.g
  exact key w.length 0 k 0 (by omega) (by omega) hg (by omega)
def turnB (m : Int) (c : Int) : Bool := decide (-1 ≤ c ∧ c ≤ m - 1)
theorem areTurns_all {k : Nat} {l : List Int} {m : Int} (hk : 2097152 ≤ k) (hl : l.length ≤ 1048576) (hm : 0 ≤ m) (hm2 : m ≤ 1048576) : impl_areAll_int64_impl_areTurns_1.f k l m = some (l.all (turnB m)) := by
  obtain ⟨j, h1, h2⟩ := idx_run (L := slices_IndexFunc_int64_int64_impl_areAll_int64_1_impl_areTurns_1.l0 k) (p := fun x => !turnB m x) (l := l) (c := m)
    (fun n i hi => by
      simp only [slices_IndexFunc_int64_int64_impl_areAll_int64_1_impl_areTurns_1.l0, slices_IndexFunc_int64_int64_impl_areAll_int64_1_impl_areTurns_1.s0]
      rw [if_pos (by omega), if_pos (by omega), if_pos (by omega)]
      simp only [impl_areAll_int64_1_impl_areTurns_1.f, impl_areTurns_1.f, within_f, Option.bind_some, w64n (show i ≤ 9223372036854775806 by omega), w64 (x := m - 1) (by omega) (by omega)]
      unfold turnB
      cases decide (-1 ≤ rd l i ∧ rd l i ≤ m - 1) <;> simp)
    (fun n => by
      simp only [slices_IndexFunc_int64_int64_impl_areAll_int64_1_impl_areTurns_1.l0, slices_IndexFunc_int64_int64_impl_areAll_int64_1_impl_areTurns_1.s0]
      rw [if_neg (by omega)]) l.length 0 k (by omega) (by omega) (by omega)
  unfold impl_areAll_int64_impl_areTurns_1.f slices_ContainsFunc_int64_int64_impl_areAll_int64_1_impl_areTurns_1.f slices_IndexFunc_int64_int64_impl_areAll_int64_1_impl_areTurns_1.f slices_IndexFunc_int64_int64_impl_areAll_int64_1_impl_areTurns_1.g
  rw [show slices_IndexFunc_int64_int64_impl_areAll_int64_1_impl_areTurns_1.l0 k k l m l.length 0 = some j from h1, Option.bind_some, Option.bind_some]
  rw [List.drop_zero] at h2
  congr 1
  exact all_iff (p := fun x => !turnB m x) (fun _ => rfl) h2
def dif : Int → List Int → List Int
  | _, [] => []
  | a, b :: P => (b - a) :: dif b P
def lastA : Int → List Int → Int
  | a, [] => a
  | _, b :: P => lastA b P
def wts (n : Int) : List Int → List Int
  | [] => []
  | f :: P => dif f P ++ [n - lastA f P + f]
def places (cs : List Int) (t : Int) : Nat → List Int
  | 0 => []
  | i + 1 => if rd cs i = t then places cs t i ++ [(i : Int)] else places cs t i
def wait (cs : List Int) (t : Int) : List Int := wts cs.length (places cs t cs.length)
theorem dif_app : ∀ (P : List Int) (a x : Int), dif a (P ++ [x]) = dif a P ++ [x - lastA a P]
  | [], a, x => rfl
  | b :: P, a, x => by
    show (b - a) :: dif b (P ++ [x]) = (b - a) :: (dif b P ++ [x - lastA b P])
    rw [dif_app P b x]
theorem lastA_app : ∀ (P : List Int) (a x : Int), lastA a (P ++ [x]) = x
  | [], a, x => rfl
  | b :: P, a, x => lastA_app P b x
theorem lastA_mem : ∀ (P : List Int) (a : Int), lastA a P ∈ a :: P
  | [], a => by simp [lastA]
  | b :: P, a => List.mem_cons_of_mem _ (lastA_mem P b)
theorem dif_len : ∀ (P : List Int) (a : Int), (dif a P).length = P.length
  | [], a => rfl
  | b :: P, a => by simp [dif, dif_len P b]
theorem wts_len (n : Int) : ∀ P : List Int, (wts n P).length = P.length
  | [] => rfl
  | f :: P => by simp [wts, dif_len]
theorem places_bnd (cs : List Int) (t : Int) : ∀ (i : Nat), ∀ x ∈ places cs t i, 0 ≤ x ∧ x < i
  | 0, x, h => by cases h
  | i + 1, x, h => by
    unfold places at h
    split at h
    · rcases List.mem_append.1 h with h | h
      · have := places_bnd cs t i x h; omega
      · simp only [List.mem_singleton] at h; omega
    · have := places_bnd cs t i x h; omega
theorem places_len (cs : List Int) (t : Int) : ∀ (i : Nat), (places cs t i).length ≤ i
  | 0 => Nat.le_refl _
  | i + 1 => by
    have := places_len cs t i
    unfold places
    split
    · simp; omega
    · omega
theorem rd_cons (a : Int) (l : List Int) (i : Nat) : rd (a :: l) ((i + 1 : Nat) : Int) = rd l (i : Int) := by rw [rd_nat, rd_nat]; rfl
theorem rd_zero (a : Int) (l : List Int) : rd (a :: l) ((0 : Nat) : Int) = a := rfl
theorem dif_rd : ∀ (P : List Int) (a : Int) (j : Nat), j < P.length → rd (dif a P) j = rd (a :: P) ((j + 1 : Nat) : Int) - rd (a :: P) j
  | [], a, j, h => by simp at h
  | b :: P, a, 0, h => rfl
  | b :: P, a, j + 1, h => by
    show rd ((b - a) :: dif b P) ((j + 1 : Nat) : Int) = _
    rw [rd_cons (b - a) (dif b P) j, dif_rd P b j (by simpa using h), rd_cons a (b :: P) (j + 1), rd_cons a (b :: P) j]
theorem lastA_rd : ∀ (P : List Int) (a : Int), lastA a P = rd (a :: P) P.length
  | [], a => rfl
  | b :: P, a => by
    rw [List.length_cons, rd_cons]
    exact lastA_rd P b
theorem wts_rd (n : Int) {P : List Int} {j : Nat} (hj : j < P.length) : rd (wts n P) j = if j + 1 < P.length then rd P ((j + 1 : Nat) : Int) - rd P j else rd P ((0 : Nat) : Int) + n - rd P j := by
  cases P with
  | nil => simp at hj
  | cons f P =>
    show rd (dif f P ++ [n - lastA f P + f]) j = _
    rw [rd_app1, dif_len]
    have hl : (f :: P).length = P.length + 1 := rfl
    by_cases c : j < P.length
    · rw [if_pos c, if_pos (by omega), dif_rd P f j c]
    · have e : j = P.length := by omega
      rw [if_neg c, if_pos e, if_neg (by omega), lastA_rd, rd_zero, e]; omega
def grt (w : List Int) : Int := w.foldl maxV 0
theorem maxV_le {a b g : Int} : maxV a b ≤ g ↔ a ≤ g ∧ b ≤ g := by unfold maxV; split <;> omega
theorem foldl_le : ∀ (w : List Int) (x g : Int), w.foldl maxV x ≤ g ↔ x ≤ g ∧ ∀ y ∈ w, y ≤ g
  | [], x, g => by simp
  | a :: w, x, g => by
    rw [List.foldl_cons, foldl_le w _ g, maxV_le]
    simp only [List.mem_cons, forall_eq_or_imp]
    constructor
    · rintro ⟨⟨h1, h2⟩, h3⟩; exact ⟨h1, h2, h3⟩
    · rintro ⟨h1, h2, h3⟩; exact ⟨⟨h1, h2⟩, h3⟩
theorem grt_le {w : List Int} {g : Int} : grt w ≤ g ↔ 0 ≤ g ∧ ∀ y ∈ w, y ≤ g := foldl_le w 0 g
theorem grt_nonneg (w : List Int) : 0 ≤ grt w := (grt_le.1 (Int.le_refl (grt w))).1
theorem grt_mem {w : List Int} {y : Int} (h : y ∈ w) : y ≤ grt w := (grt_le.1 (Int.le_refl (grt w))).2 y h
theorem wait_last {cs : List Int} {t : Int} (h : wait cs t ≠ []) : 1 ≤ grt (wait cs t) := by
  have hb := places_bnd cs t cs.length
  unfold wait at h ⊢
  cases hP : places cs t cs.length with
  | nil => rw [hP] at h; exact absurd rfl h
  | cons f P =>
    rw [hP] at hb
    have h1 := hb f (by simp)
    have h2 := hb _ (lastA_mem P f)
    have := grt_mem (w := wts cs.length (f :: P)) (y := (cs.length : Int) - lastA f P + f) (List.mem_append_right _ (by simp))
    omega
theorem impl_waits_f {k : Nat} {cs : List Int} (hk : 2097152 ≤ k) (hl : cs.length ≤ 1048576) (t : Int) : impl_waits.f k cs t = some (wait cs t) := by
  have hb := places_bnd cs t cs.length
  have hpl := places_len cs t cs.length
  have key1 : ∀ (d j n : Nat), (places cs t cs.length).length - j = d → j ≤ (places cs t cs.length).length → d < n → impl_waits.l1 k n cs (places cs t cs.length) ((wait cs t).take j) (places cs t cs.length).length j = some (wait cs t) := by
    have hwl : (wait cs t).length = (places cs t cs.length).length := wts_len _ _
    intro d
    induction d with
    | zero =>
      intro j n hd hj hn
      cases n with
      | zero => omega
      | succ n =>
        simp only [impl_waits.l1, impl_waits.s1]
        rw [if_neg (by omega), List.take_of_length_le (by omega)]
    | succ d ih =>
      intro j n hd hj hn
      cases n with
      | zero => omega
      | succ n =>
        have hr := wts_rd (cs.length : Int) (P := places cs t cs.length) (j := j) (by omega)
        have e : (wait cs t).take (j + 1) = (wait cs t).take j ++ [rd (wait cs t) j] := by rw [rd_lt (by omega), List.take_succ_eq_append_getElem (by omega)]
        have b1 := hb _ (rd_mem (l := places cs t cs.length) (i := j) (by omega))
        have tl : ((wait cs t).take j).length ≤ 1048576 := by rw [List.length_take]; omega
        simp only [impl_waits.l1, impl_waits.s1]
        rw [w64n (by omega), if_pos (by omega), if_pos (by omega), if_pos (by omega)]
        have next := ih (j + 1) n (by omega) (by omega) (by omega)
        by_cases c : j + 1 < (places cs t cs.length).length
        · have b2 := hb _ (rd_mem (l := places cs t cs.length) (i := j + 1) c)
          rw [if_pos c] at hr
          rw [if_pos (by omega), if_pos (by omega), if_pos (by omega), if_pos (by omega), w64 (by omega) (by omega), ← hr]
          rw [e] at next
          exact next
        · have b2 := hb _ (rd_mem (l := places cs t cs.length) (i := 0) (by omega))
          rw [if_neg c] at hr
          have e0 : rd (places cs t cs.length) 0 = rd (places cs t cs.length) ((0 : Nat) : Int) := rfl
          rw [if_neg (by omega), if_pos (by omega), length_f, Option.bind_some, if_pos (by omega), e0, w64 (x := rd (places cs t cs.length) ((0 : Nat) : Int) + cs.length) (by omega) (by omega), w64 (by omega) (by omega), ← hr]
          rw [e] at next
          exact next
  have key0 : ∀ (d i n : Nat), cs.length - i = d → i ≤ cs.length → d < n → impl_waits.l0 k n cs t (places cs t i) cs cs.length i = some (wait cs t) := by
    intro d
    induction d with
    | zero =>
      intro i n hd hi hn
      obtain rfl : i = cs.length := by omega
      cases n with
      | zero => omega
      | succ n =>
        simp only [impl_waits.l0, impl_waits.s0]
        rw [if_neg (by omega)]
        exact key1 _ 0 k rfl (by omega) (by omega)
    | succ d ih =>
      intro i n hd hi hn
      cases n with
      | zero => omega
      | succ n =>
        have hpi := places_len cs t i
        simp only [impl_waits.l0, impl_waits.s0]
        rw [w64n (by omega), if_pos (by omega), if_pos (by omega), if_pos (by omega)]
        have next := ih (i + 1) n (by omega) (by omega) (by omega)
        by_cases c : rd cs i = t
        · rw [if_pos c, if_pos (by omega)]
          rw [show places cs t (i + 1) = places cs t i ++ [(i : Int)] from if_pos c] at next
          exact next
        · rw [if_neg c]
          rw [show places cs t (i + 1) = places cs t i from if_neg c] at next
          exact next
  unfold impl_waits.f impl_waits.g
  exact key0 cs.length 0 k (by omega) (by omega) (by omega)
theorem wait_len {cs : List Int} (t : Int) : (wait cs t).length ≤ cs.length := by
  unfold wait; rw [wts_len]; exact places_len cs t cs.length
theorem impl_greatest_f {k : Nat} {w : List Int} (hk : 2097152 ≤ k) (hw : w.length ≤ 1048576) : impl_greatest.f k w = some (grt w) := by
  have key : ∀ (d i n : Nat) (x : Int), w.length - i = d → i ≤ w.length → d < n → impl_greatest.l0 k n x w w.length i = some ((w.drop i).foldl maxV x) := by
    intro d
    induction d with
    | zero =>
      intro i n x hd hi hn
      cases n with
      | zero => omega
      | succ n =>
        simp only [impl_greatest.l0, impl_greatest.s0]
        rw [if_neg (by omega), List.drop_eq_nil_of_le (by omega)]; rfl
    | succ d ih =>
      intro i n x hd hi hn
      cases n with
      | zero => omega
      | succ n =>
        simp only [impl_greatest.l0, impl_greatest.s0]
        rw [w64n (by omega), if_pos (by omega), if_pos (by omega), if_pos (by omega), drop_cons (by omega), ih (i + 1) n _ (by omega) (by omega) (by omega)]; rfl
  unfold impl_greatest.f impl_greatest.g
  exact key w.length 0 k 0 (by omega) (by omega) (by omega)
def okT (cs : List Int) (t g : Int) : Bool := decide (1 ≤ (wait cs t).length ∧ grt (wait cs t) ≤ g)
def servB (G cs : List Int) : Nat → Nat → Bool
  | _, 0 => true
  | i, d + 1 => okT cs i (rd G i) && servB G cs (i + 1) d
theorem servB_iff {G cs : List Int} : ∀ {d i : Nat}, servB G cs i d = true ↔ ∀ t : Nat, i ≤ t → t < i + d → okT cs t (rd G t) = true
  | 0, i => by simp only [servB, true_iff]; intro t h1 h2; omega
  | d + 1, i => by
    simp only [servB, Bool.and_eq_true]
    rw [servB_iff (d := d)]
    constructor
    · rintro ⟨h1, h2⟩ t h3 h4
      by_cases e : t = i
      · rw [e]; exact h1
      · exact h2 t (by omega) (by omega)
    · intro h
      exact ⟨h i (by omega) (by omega), fun t h1 h2 => h t (by omega) (by omega)⟩
theorem getD_set_ne {L : List Bool} {i j : Nat} {b : Bool} (h : i ≠ j) : (L.set i b).getD j false = L.getD j false := by
  rw [List.getD_eq_getElem?_getD, List.getD_eq_getElem?_getD, List.getElem?_set_ne h]
theorem swp_sup {g : List Bool → Nat → Bool} {X : Nat → Prop} (hg : ∀ L, (∀ v, X v → L.getD v false = true) → ∀ v, X v → g L v = true) : ∀ (d i : Nat) (L : List Bool) (ch : Bool), (∀ v, X v → L.getD v false = true) → ∀ v, X v → (swp g d i L ch).1.getD v false = true
  | 0, i, L, ch, h => h
  | d + 1, i, L, ch, h => by
    by_cases hb : L.getD i false = true
    · by_cases hgg : g L i = true
      · rw [swp_good hb hgg]; exact swp_sup hg d (i + 1) L ch h
      · rw [swp_bad hb hgg]
        refine swp_sup hg d (i + 1) _ true fun v hv => ?_
        rw [getD_set_ne (fun e => hgg (by rw [e]; exact hg L h v hv))]
        exact h v hv
    · rw [swp_end _ _ _ _ _ hb]; exact swp_sup hg d (i + 1) L ch h
theorem fix_sup {g : List Bool → Nat → Bool} {X : Nat → Prop} (hg : ∀ L, (∀ v, X v → L.getD v false = true) → ∀ v, X v → g L v = true) : ∀ (n : Nat) (L L' : List Bool) (ch : Bool), fixO g n L ch = some L' → (∀ v, X v → L.getD v false = true) → ∀ v, X v → L'.getD v false = true
  | 0, _, _, _, h, _ => by cases h
  | n + 1, L, L', false, h, hx => by
    obtain rfl : L = L' := by simpa [fixO] using h
    exact hx
  | n + 1, L, L', true, h, hx => by
    have h' : fixO g n (swp g L.length 0 L false).1 (swp g L.length 0 L false).2 = some L' := by simpa [fixO] using h
    exact fix_sup hg n _ L' _ h' (swp_sup hg _ _ _ _ hx)
theorem lasting_sup {G : List Int} (h : isT G = true) (hc : cnt G ≤ 4000) {X : Nat → Prop} (hX : ∀ v, X v → (v : Int) < cnt G) (hg : ∀ v, X v → ∃ c T, c ∈ chs G.length ∧ step G (ofN G (v : Int)) c = some T ∧ X (num G T).toNat) : ∀ v, X v → (lasting G).getD v false = true := by
  obtain ⟨h1, _⟩ := lasting_fix (k := 4003) h hc (Nat.le_refl _)
  refine fix_sup (g := goodK G) (X := X) (fun L hL v hv => ?_) 4003 _ _ true h1 (fun v hv => ?_)
  · obtain ⟨c, T, hc1, hs, hx⟩ := hg v hv
    refine goodK_t fun e => ?_
    have : c ∈ keep G L v := List.mem_filter.2 ⟨hc1, by simp only [goodC, hs]; exact hL _ hx⟩
    rw [e] at this
    exact absurd this (by simp)
  · have := hX v hv
    rw [List.getD_eq_getElem?_getD, List.getElem?_replicate, if_pos (by omega)]; rfl
def LeL : List Int → List Int → Prop
  | [], [] => True
  | a :: A, b :: B => a ≤ b ∧ LeL A B
  | _, _ => False
theorem LeL.length : ∀ {A B : List Int}, LeL A B → A.length = B.length
  | [], [], _ => rfl
  | a :: A, b :: B, h => by simp [LeL.length h.2]
  | [], _ :: _, h => h.elim
  | _ :: _, [], h => h.elim
theorem LeL.rfl' : ∀ {A : List Int}, LeL A A
  | [] => trivial
  | a :: A => ⟨Int.le_refl _, LeL.rfl'⟩
theorem LeL.set : ∀ {A : List Int} {i : Nat} {x y : Int}, x ≤ y → LeL (A.set i x) (A.set i y)
  | [], i, x, y, h => trivial
  | a :: A, 0, x, y, h => ⟨h, LeL.rfl'⟩
  | a :: A, i + 1, x, y, h => ⟨Int.le_refl _, LeL.set (A := A) (i := i) h⟩
theorem LeL.cnt : ∀ {A B : List Int}, Gp A → LeL A B → cnt A ≤ cnt B
  | [], [], _, _ => Int.le_refl _
  | a :: A, b :: B, hA, h => by
    have h1 := LeL.cnt hA.tail h.2
    have h2 := hA.head
    have h3 := h.1
    have h4 := cnt_pos hA.tail
    show a * Vf.cnt A ≤ b * Vf.cnt B
    exact Int.mul_le_mul h.1 h1 (by omega) (by omega)
  | [], _ :: _, _, h => h.elim
  | _ :: _, [], _, h => h.elim
theorem stepA_wide {c : Int} : ∀ {j : Int} {G G' S S' T : List Int}, LeL G G' → LeL S S' → stepA c j G S = some T → ∃ T', stepA c j G' S' = some T' ∧ LeL T T'
  | j, [], [], S, S', T, _, _, h => by simp [stepA] at h; subst h; exact ⟨[], rfl, trivial⟩
  | j, g :: G, g' :: G', [], [], T, _, _, h => by simp [stepA] at h; subst h; exact ⟨[], rfl, trivial⟩
  | j, g :: G, g' :: G', s :: S, s' :: S', T, hG, hS, h => by
    simp only [stepA] at h ⊢
    have hs := hS.1
    have hg := hG.1
    by_cases e : j = c
    · rw [if_pos e] at h ⊢
      obtain ⟨T1, h1, rfl⟩ := Option.map_eq_some_iff.1 h
      obtain ⟨T2, h2, h3⟩ := stepA_wide hG.2 hS.2 h1
      rw [h2]
      exact ⟨_, rfl, hg, h3⟩
    · rw [if_neg e] at h ⊢
      by_cases e2 : s < 2
      · rw [if_pos e2] at h; cases h
      · rw [if_neg e2] at h
        rw [if_neg (by omega)]
        obtain ⟨T1, h1, rfl⟩ := Option.map_eq_some_iff.1 h
        obtain ⟨T2, h2, h3⟩ := stepA_wide hG.2 hS.2 h1
        rw [h2]
        exact ⟨_, rfl, by omega, h3⟩
  | j, [], _ :: _, _, _, _, h, _, _ => h.elim
  | j, _ :: _, [], _, _, _, h, _, _ => h.elim
  | j, _ :: _, _ :: _, [], _ :: _, _, _, h, _ => h.elim
  | j, _ :: _, _ :: _, _ :: _, [], _, _, h, _ => h.elim
def canB (G : List Int) : Bool := (lasting G).getD (cnt G - 1).toNat false
theorem can_wide {G G' : List Int} (h : isT G = true) (h' : isT G' = true) (hl : LeL G G') (hc : cnt G ≤ 4000) (hc' : cnt G' ≤ 4000) (hb : canB G = true) : canB G' = true := by
  have hG := isT_gp h
  have hG' := isT_gp h'
  have hp' := cnt_pos hG'
  have key := lasting_sup h' hc' (X := fun v => (v : Int) < cnt G' ∧ ∃ S, Stt G S ∧ (lasting G).getD (num G S).toNat false = true ∧ LeL S (ofN G' (v : Int))) (fun v hv => hv.1) (by
    rintro v ⟨hv, S, hS, hSl, hle⟩
    obtain ⟨b1, b2⟩ := num_bnd hG hS
    obtain ⟨c, T, hk, hr, hs, hT, n1, n2, hTl, _⟩ := keep_next h hc b1 b2 hSl
    rw [ofN_num hG hS] at hs
    obtain ⟨T', hs', hTT⟩ := stepA_wide hl hle hs
    have hT' := step_st hG' (ofN_st (v : Int) hG') hs'
    obtain ⟨m1, m2⟩ := num_bnd hG' hT'
    have hcm : c ∈ chs G.length := by
      have hm : c ∈ keep G (lasting G) (num G S) := by
        rw [← hr]
        exact rd_mem (l := keep G (lasting G) (num G S)) (i := 0) hk
      exact (List.mem_filter.1 hm).1
    refine ⟨c, T', by rw [← hl.length]; exact hcm, hs', by omega, T, hT, hTl, ?_⟩
    rw [show (((num G' T').toNat : Nat) : Int) = num G' T' by omega, ofN_num hG' hT']
    exact hTT)
  unfold canB
  refine key _ ⟨by omega, G, stt_self hG, by rw [num_self hG]; exact hb, ?_⟩
  rw [show (((cnt G' - 1).toNat : Nat) : Int) = cnt G' - 1 by omega, ofN_full h']
  exact hl
theorem isT_set {G : List Int} {t : Nat} {y : Int} (h : isT G = true) (h1 : 1 ≤ y) (h2 : y ≤ 40) : isT (G.set t y) = true := by
  obtain ⟨a, b⟩ := isT_iff.1 h
  refine isT_iff.2 ⟨by simpa using a, fun g hg => ?_⟩
  rcases List.mem_or_eq_of_mem_set hg with hg | rfl
  · exact b g hg
  · exact ⟨h1, h2⟩
theorem set_self {G : List Int} {t : Nat} (ht : t < G.length) : G.set t (rd G t) = G := by
  rw [rd_lt ht]; exact List.set_getElem_self ht
structure Gap (G : List Int) (t : Nat) : Prop where
  h : isT G = true
  hc : cnt G ≤ 4000
  ht : t < G.length
theorem Gap.bnd {G : List Int} {t : Nat} (I : Gap G t) : 1 ≤ rd G t ∧ rd G t ≤ 40 := (isT_iff.1 I.h).2 _ (rd_mem I.ht)
theorem Gap.isT {G : List Int} {t : Nat} (I : Gap G t) {y : Int} (h1 : 1 ≤ y) (h2 : y ≤ rd G t) : Vf.isT (G.set t y) = true := isT_set I.h h1 (by have := I.bnd; omega)
theorem Gap.cnt {G : List Int} {t : Nat} (I : Gap G t) {y : Int} (h1 : 1 ≤ y) (h2 : y ≤ rd G t) : Vf.cnt (G.set t y) ≤ 4000 := by
  have := LeL.cnt (isT_gp (I.isT h1 h2)) (LeL.set (A := G) (i := t) h2)
  rw [set_self I.ht] at this
  exact Int.le_trans this I.hc
theorem Gap.can {G : List Int} {t : Nat} (I : Gap G t) {y z : Int} (h1 : 1 ≤ y) (h2 : y ≤ z) (h3 : z ≤ rd G t) (h : canB (G.set t y) = true) : canB (G.set t z) = true :=
  can_wide (I.isT h1 (by omega)) (I.isT (by omega) h3) (LeL.set h2) (I.cnt h1 (by omega)) (I.cnt (by omega) h3) h
theorem gap_find (p : Int → Bool) (g : Int) (hp : p g = true) : ∀ (d : Nat) (y : Int), y + d = g → ∃ m, y ≤ m ∧ m ≤ g ∧ p m = true ∧ ∀ z, y ≤ z → z < m → ¬ p z = true
  | 0, y, h => ⟨g, by omega, by omega, hp, fun z h1 h2 => by omega⟩
  | d + 1, y, h => by
    by_cases hy : p y = true
    · exact ⟨y, by omega, by omega, hy, fun z h1 h2 => by omega⟩
    · obtain ⟨m, h1, h2, h3, h4⟩ := gap_find p g hp d (y + 1) (by omega)
      refine ⟨m, by omega, h2, h3, fun z h5 h6 => ?_⟩
      by_cases e : z = y
      · rw [e]; exact hy
      · exact h4 z (by omega) h6
theorem canR_canB {G : List Int} (h : isT G = true) (hc : cnt G ≤ 4000) : (canR G).1 = canB G := can_few h hc
theorem servable_no {k : Nat} {G : List Int} (hk : 2097152 ≤ k) (hl : G.length ≤ 1048576) : impl_servable.f k G false = some (none, if isT G = true then 2 else 1) := by
  unfold impl_servable.f
  rw [statesCode_f hk hl, Option.bind_some]
  cases isT G <;> rfl
def tgt (G : List Int) (v c : Int) : Int := num G ((step G (ofN G v) c).getD [])
def inn (G : List Int) (fr v : Int) : List Int → List Bool → List Int → Option (List Bool × List Int)
  | [], s, q => some (s, q)
  | c :: cs, s, q => if tgt G v c = fr then none else if s.getD (tgt G v c).toNat false = true then inn G fr v cs s q else inn G fr v cs (s.set (tgt G v c).toNat true) (q ++ [tgt G v c])
def bfs (G : List Int) (fr : Int) : Nat → List Int → List Int → List Bool → Int → Option Int
  | 0, _, _, _, _ => none
  | n + 1, v :: cur, nxt, seen, r => match inn G fr v (keep G (lasting G) v) seen nxt with
    | none => some r
    | some p => bfs G fr n cur p.2 p.1 r
  | n + 1, [], nxt, seen, r => if nxt = [] then some 0 else bfs G fr n nxt [] seen (r + 1)
def falses (l : List Bool) : Nat := (l.filter fun b => !b).length
theorem falses_set : ∀ {l : List Bool} {i : Nat}, i < l.length → l.getD i false = false → falses (l.set i true) + 1 = falses l
  | [], i, h, _ => by simp at h
  | a :: l, 0, _, h => by
    have h2 : a = false := by simpa using h
    subst h2
    simp [falses]
  | a :: l, i + 1, hi, h => by
    have := falses_set (l := l) (i := i) (by simpa using hi) (by simpa using h)
    unfold falses at this ⊢
    rw [List.set_cons_succ, List.filter_cons, List.filter_cons]
    cases a <;> simp <;> omega
theorem falses_rep : ∀ m : Nat, falses (List.replicate m false) = m := by
  intro m
  induction m with
  | zero => rfl
  | succ m ih =>
    unfold falses at ih ⊢
    rw [List.replicate_succ, List.filter_cons, if_pos (by simp), List.length_cons, ih]
structure Las (G : List Int) (v : Int) : Prop where
  v0 : 0 ≤ v
  v1 : v < cnt G
  lv : (lasting G).getD v.toNat false = true
theorem keep_las {G : List Int} (h : isT G = true) {v c : Int} (hv : Las G v) (hc : c ∈ keep G (lasting G) v) : Las G (tgt G v c) ∧ ∃ T, step G (ofN G v) c = some T ∧ Stt G T ∧ tgt G v c = num G T ∧ mgI (nx G v) c = some (num G T) := by
  obtain ⟨hm1, hm2⟩ := List.mem_filter.1 hc
  obtain ⟨i, hi, rfl⟩ := List.mem_map.1 hm1
  have hi := List.mem_range.1 hi
  cases hs : step G (ofN G v) ((i : Int) - 1) with
  | none => simp [goodC, hs] at hm2
  | some T =>
    obtain ⟨b0, b1, b2⟩ := ofN_num_bnd h hs
    have e : tgt G v ((i : Int) - 1) = num G T := by unfold tgt; rw [hs]; rfl
    refine ⟨⟨by rw [e]; exact b1, by rw [e]; exact b2, by rw [e]; simpa [goodC, hs] using hm2⟩, T, rfl, b0, e, ?_⟩
    rw [mgI_nx (by omega), hs]; rfl
theorem inn_ok {G : List Int} (h : isT G = true) {fr v : Int} (hv : Las G v) : ∀ (cs : List Int) (seen : List Bool) (nxt : List Int) (p : List Bool × List Int), (∀ c ∈ cs, c ∈ keep G (lasting G) v) → (seen.length : Int) = cnt G → inn G fr v cs seen nxt = some p →
    p.1.length = seen.length ∧ p.2.length + falses p.1 = nxt.length + falses seen ∧ (∀ c ∈ cs, tgt G v c ≠ fr ∧ p.1.getD (tgt G v c).toNat false = true) ∧ (∀ i : Nat, seen.getD i false = true → p.1.getD i false = true) ∧
      (∀ x ∈ p.2, x ∈ nxt ∨ ∃ c ∈ cs, x = tgt G v c) ∧ (∀ x ∈ nxt, x ∈ p.2) ∧ (∀ i : Nat, p.1.getD i false = true → seen.getD i false = true ∨ (i : Int) ∈ p.2)
  | [], seen, nxt, p, _, _, e => by
    simp only [inn, Option.some.injEq] at e
    subst e
    exact ⟨rfl, rfl, fun c hc => by simp at hc, fun i hi => hi, fun x hx => .inl hx, fun x hx => hx, fun i hi => .inl hi⟩
  | c :: cs, seen, nxt, p, hcs, hs, e => by
    obtain ⟨hl, _⟩ := keep_las h hv (hcs c (by simp))
    have h0 := hl.v0; have h1 := hl.v1
    simp only [inn] at e
    split at e
    · cases e
    · rename_i hfr
      split at e
      · rename_i hse
        obtain ⟨q1, q2, q3, q4, q5, q6, q7⟩ := inn_ok h hv cs seen nxt p (fun c hc => hcs c (by simp [hc])) hs e
        refine ⟨q1, q2, fun c' hc' => ?_, q4, fun x hx => ?_, q6, q7⟩
        · rcases List.mem_cons.1 hc' with rfl | hc'
          · exact ⟨hfr, q4 _ hse⟩
          · exact q3 c' hc'
        · rcases q5 x hx with hx | ⟨c', hc', rfl⟩
          · exact .inl hx
          · exact .inr ⟨c', by simp [hc'], rfl⟩
      · rename_i hse
        have hfs := falses_set (l := seen) (i := (tgt G v c).toNat) (by omega) (by simpa using hse)
        obtain ⟨q1, q2, q3, q4, q5, q6, q7⟩ := inn_ok h hv cs _ _ p (fun c hc => hcs c (by simp [hc])) (by simpa using hs) e
        have hset : ∀ i : Nat, (seen.set (tgt G v c).toNat true).getD i false = true ↔ (i = (tgt G v c).toNat ∨ seen.getD i false = true) := by
          intro i
          rw [List.getD_eq_getElem?_getD, List.getElem?_set]
          by_cases ei : (tgt G v c).toNat = i
          · rw [if_pos ei, if_pos (by omega)]; simp [ei]
          · rw [if_neg ei, ← List.getD_eq_getElem?_getD]
            constructor
            · exact fun q => .inr q
            · rintro (q | q)
              · exact absurd q.symm ei
              · exact q
        refine ⟨by rw [q1]; simp, by rw [q2]; simp; omega, fun c' hc' => ?_, fun i hi => q4 i ((hset i).2 (.inr hi)), fun x hx => ?_, fun x hx => q6 x (by simp [hx]), fun i hi => ?_⟩
        · rcases List.mem_cons.1 hc' with rfl | hc'
          · exact ⟨hfr, q4 _ ((hset _).2 (.inl rfl))⟩
          · exact q3 c' hc'
        · rcases q5 x hx with hx | ⟨c', hc', rfl⟩
          · rcases List.mem_append.1 hx with hx | hx
            · exact .inl hx
            · exact .inr ⟨c, by simp, by simpa using hx⟩
          · exact .inr ⟨c', by simp [hc'], rfl⟩
        · rcases q7 i hi with hi | hi
          · rcases (hset i).1 hi with rfl | hi
            · exact .inr (q6 _ (by simp; omega))
            · exact .inl hi
          · exact .inr hi
end Go.Proofs.YtcbhhbkghbnljaaGreatDoor.Vf
