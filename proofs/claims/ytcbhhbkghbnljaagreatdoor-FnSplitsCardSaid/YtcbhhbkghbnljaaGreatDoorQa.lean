/- What tasks, states and channels give, plainly. Conditions: as each theorem states. My own. -/
import Derived.Test.YtcbhhbkghbnljaaGreatDoorFb
set_option linter.unusedVariables false
set_option linter.unusedSimpArgs false
namespace Go.Proofs.YtcbhhbkghbnljaaGreatDoor.Vf
open Go Go.V Go.RowKit
theorem w64 {x : Int} (h : -9223372036854775808 ≤ x) (h2 : x ≤ 9223372036854775807) : wrap64 x = x := by unfold wrap64; omega
theorem w64n {i : Nat} (h : i ≤ 9223372036854775806) : wrap64 ((i : Int) + 1) = ((i + 1 : Nat) : Int) := by rw [w64 (by omega) (by omega)]; omega
theorem rd_nat (l : List Int) (i : Nat) : rd l (i : Int) = l.getD i 0 := by unfold rd; rw [Int.toNat_natCast]
theorem rd_lt {l : List Int} {i : Nat} (h : i < l.length) : rd l (i : Int) = l[i] := by rw [rd_nat, List.getD_eq_getElem?_getD, List.getElem?_eq_getElem h, Option.getD_some]
theorem rdOf_nat {α : Type} (d : α) (l : List α) (i : Nat) : rdOf d l (i : Int) = l.getD i d := by unfold rdOf; rw [Int.toNat_natCast]
theorem rdOf_lt {α : Type} {d : α} {l : List α} {i : Nat} (h : i < l.length) : rdOf d l (i : Int) = l[i] := by rw [rdOf_nat, List.getD_eq_getElem?_getD, List.getElem?_eq_getElem h, Option.getD_some]
theorem rd_mem {l : List Int} {i : Nat} (h : i < l.length) : rd l (i : Int) ∈ l := by rw [rd_lt h]; exact List.getElem_mem h
theorem drop_cons {l : List Int} {i : Nat} (h : i < l.length) : l.drop i = rd l (i : Int) :: l.drop (i + 1) := by rw [rd_lt h]; exact List.drop_eq_getElem_cons h
def I64 (x : Int) : Prop := -9223372036854775808 ≤ x ∧ x ≤ 9223372036854775807
theorem I64.of_wf {x : Int} (h : (Lit.int .i64 x).wf = true) : I64 x := by
 simp only [Lit.wf, Bool.and_eq_true, decide_eq_true_eq] at h
 exact ⟨by have := h.1; simpa [IntKind.min, IntKind.signed, IntKind.bits] using this, by have := h.2; simpa [IntKind.max, IntKind.signed, IntKind.bits] using this⟩
theorem maxLen_eq : maxLen = 9223372036854775807 := by decide
theorem set_step (l : List Int) (i : Nat) (h : i < l.length) : (l.take i ++ List.replicate (l.length - i) 0).set i (rd l i) = l.take (i + 1) ++ List.replicate (l.length - (i + 1)) 0 := by
 rw [rd_lt h, List.set_append_right _ _ (by simp; omega)]
 rw [show i - (List.take i l).length = 0 from by simp; omega]
 rw [show l.length - i = (l.length - (i + 1)) + 1 by omega, List.replicate_succ, List.set_cons_zero, List.take_succ_eq_append_getElem h, List.append_assoc]
 rfl
theorem idx_run {γ : Type} {L : Nat → List Int → γ → Int → Int → Option Int} {p : Int → Bool} {l : List Int} {c : γ}
  (hs : ∀ n (i : Nat), i < l.length → L (n + 1) l c l.length i = if p (rd l i) = true then some (i : Int) else L n l c l.length ((i + 1 : Nat) : Int)) (he : ∀ n, L (n + 1) l c l.length l.length = some (-1)) :
  ∀ (d i n : Nat), l.length - i = d → i ≤ l.length → d < n → ∃ j : Int, L n l c l.length i = some j ∧ ((0 ≤ j) ↔ ∃ x ∈ l.drop i, p x = true) := by
 intro d
 induction d with
 | zero =>
  intro i n hd hi hn
  obtain rfl : i = l.length := by omega
  cases n with
  | zero => omega
  | succ n => exact ⟨-1, he n, by simp⟩
 | succ d ih =>
  intro i n hd hi hn
  cases n with
  | zero => omega
  | succ n =>
   rw [hs n i (by omega), drop_cons (by omega)]
   by_cases hp : p (rd l i) = true
   ·rw [if_pos hp]
    exact ⟨i, rfl, by simp [hp]⟩
   ·rw [if_neg hp]
    obtain ⟨j, h1, h2⟩ := ih (i + 1) n (by omega) (by omega) (by omega)
    exact ⟨j, h1, by rw [h2]; simp [hp]⟩
theorem all_iff {l : List Int} {p q : Int → Bool} (h : ∀ x, p x = !q x) {j : Int} (hj : (0 ≤ j) ↔ ∃ x ∈ l, p x = true) : (!decide (decide (0 ≤ j) = true)) = l.all q := by
 rw [Bool.eq_iff_iff]
 simp only [Bool.not_eq_true', decide_eq_false_iff_not, decide_eq_true_eq, List.all_eq_true]
 rw [hj]
 constructor
 ·intro hn x hx
  cases hq : q x with
  | true => rfl
  | false => exact absurd ⟨x, hx, by rw [h, hq]; rfl⟩ hn
 ·rintro hall ⟨x, hx, hp⟩
  rw [h, hall x hx] at hp
  cases hp
theorem l01In_f (a b c : Int) : spec_l01In.f a b c = some (decide (b ≤ a ∧ a ≤ c)) := by
 unfold spec_l01In.f
 by_cases h : b ≤ a <;> simp [h]
theorem within_f (a b c : Int) : impl_within.f a b c = some (decide (b ≤ a ∧ a ≤ c)) := by
 unfold impl_within.f
 by_cases h : b ≤ a <;> simp [h]
theorem length_f (l : List Int) : impl_length_int64.f l = some (l.length : Int) := rfl
theorem many_f (l : List Int) : impl_Tasks_many.f l = some (l.length : Int) := rfl
theorem l01K_f (l : List Int) : spec_l01K.f l = some (l.length : Int) := rfl
def gapB (g : Int) : Bool := decide (1 ≤ g ∧ g ≤ 40)
def isT (l : List Int) : Bool := decide (1 ≤ l.length ∧ l.length ≤ 8) && l.all gapB
theorem isT_iff {l : List Int} : isT l = true ↔ (1 ≤ l.length ∧ l.length ≤ 8) ∧ ∀ g ∈ l, 1 ≤ g ∧ g ≤ 40 := by
 unfold isT gapB
 simp [List.all_eq_true]
theorem l01Is_loop {k : Nat} {l : List Int} (hl : l.length ≤ 1048576) : ∀ (d i n : Nat), l.length - i = d → i ≤ l.length → d < n →
  spec_l01Is.l0 k n l i = some ((l.drop i).all gapB && decide (1 ≤ l.length ∧ l.length ≤ 8)) := by
 intro d
 induction d with
 | zero =>
  intro i n hd hi hn
  obtain rfl : i = l.length := by omega
  cases n with
  | zero => omega
  | succ n =>
   simp only [spec_l01Is.l0, spec_l01Is.s0]
   rw [if_neg (by omega), List.drop_length]
   simp only [l01K_f, l01In_f, Option.bind_some, List.all_nil, Bool.true_and]
   congr 2
   simp only [eq_iff_iff]; omega
 | succ d ih =>
  intro i n hd hi hn
  cases n with
  | zero => omega
  | succ n =>
   simp only [spec_l01Is.l0, spec_l01Is.s0]
   rw [if_pos (by omega), if_pos (by omega), if_pos (by omega), l01In_f, Option.bind_some, drop_cons (by omega), List.all_cons]
   by_cases e : 1 ≤ rd l i ∧ rd l i ≤ 40
   ·rw [if_pos (by simpa using e), w64n (by omega), ih (i + 1) n (by omega) (by omega) (by omega)]
    simp [gapB, e]
   ·rw [if_neg (by simpa using e)]
    simp only [gapB, e, decide_false, Bool.false_and]
theorem l01Is_f {k : Nat} {l : List Int} (hk : 2097152 ≤ k) (hl : l.length ≤ 1048576) : spec_l01Is.f k l = some (isT l) := by
 unfold spec_l01Is.f spec_l01Is.g
 have := l01Is_loop (k := k) hl l.length 0 k (by omega) (by omega) (by omega)
 exact this.trans (by rw [List.drop_zero, isT, Bool.and_comm])
theorem areAll_tasks {k : Nat} {l : List Int} (hk : 2097152 ≤ k) (hl : l.length ≤ 1048576) : impl_areAll_int64_impl_IsTasks_1.f k l () = some (l.all gapB) := by
 obtain ⟨j, h1, h2⟩ := idx_run (L := slices_IndexFunc_int64_int64_impl_areAll_int64_1_impl_IsTasks_1.l0 k) (p := fun x => !gapB x) (l := l) (c := ())
  (fun n i hi => by
   simp only [slices_IndexFunc_int64_int64_impl_areAll_int64_1_impl_IsTasks_1.l0, slices_IndexFunc_int64_int64_impl_areAll_int64_1_impl_IsTasks_1.s0]
   rw [if_pos (by omega), if_pos (by omega), if_pos (by omega)]
   simp only [impl_areAll_int64_1_impl_IsTasks_1.f, impl_IsTasks_1.f, within_f, Option.bind_some, gapB, w64n (show i ≤ 9223372036854775806 by omega)]
   by_cases h : 1 ≤ rd l i ∧ rd l i ≤ 40 <;> simp [h])
  (fun n => by
   simp only [slices_IndexFunc_int64_int64_impl_areAll_int64_1_impl_IsTasks_1.l0, slices_IndexFunc_int64_int64_impl_areAll_int64_1_impl_IsTasks_1.s0]
   rw [if_neg (by omega)]) l.length 0 k (by omega) (by omega) (by omega)
 unfold impl_areAll_int64_impl_IsTasks_1.f slices_ContainsFunc_int64_int64_impl_areAll_int64_1_impl_IsTasks_1.f slices_IndexFunc_int64_int64_impl_areAll_int64_1_impl_IsTasks_1.f slices_IndexFunc_int64_int64_impl_areAll_int64_1_impl_IsTasks_1.g
 rw [show slices_IndexFunc_int64_int64_impl_areAll_int64_1_impl_IsTasks_1.l0 k k l () l.length 0 = some j from h1, Option.bind_some, Option.bind_some]
 rw [List.drop_zero] at h2
 congr 1
 exact all_iff (p := fun x => !gapB x) (fun _ => rfl) h2
theorem isTasks_f {k : Nat} {l : List Int} (hk : 2097152 ≤ k) (hl : l.length ≤ 1048576) : impl_IsTasks.f k l = some (isT l) := by
 unfold impl_IsTasks.f
 simp only [length_f, within_f, Option.bind_some, areAll_tasks hk hl]
 unfold isT
 by_cases h : 1 ≤ l.length ∧ l.length ≤ 8
 ·rw [if_pos (by simp; omega)]; simp [h]
 ·rw [if_neg (by simp; omega)]; simp [h]
theorem tasksCode_f {k : Nat} {l : List Int} (hk : 2097152 ≤ k) (hl : l.length ≤ 1048576) (b : Bool) : impl_tasksCode.f k l b = some (if isT l then (if b then 0 else 2) else 1) := by
 unfold impl_tasksCode.f
 rw [isTasks_f hk hl, Option.bind_some]
 cases isT l <;> cases b <;> rfl
def Gp (G : List Int) : Prop := ∀ g ∈ G, 1 ≤ g ∧ g ≤ 40
theorem Gp.tail {g : Int} {G : List Int} (h : Gp (g :: G)) : Gp G := fun x hx => h x (by simp [hx])
theorem Gp.head {g : Int} {G : List Int} (h : Gp (g :: G)) : 1 ≤ g ∧ g ≤ 40 := h g (by simp)
def cnt : List Int → Int
 | [] => 1
 | g :: G => g * cnt G
theorem cnt_pos : ∀ {G : List Int}, Gp G → 1 ≤ cnt G
 | [], _ => by simp [cnt]
 | g :: G, h => by
  have h1 := cnt_pos h.tail
  have h2 := h.head
  simp only [cnt]
  exact Int.le_trans h2.1 (by have := Int.mul_le_mul_of_nonneg_left h1 (show (0:Int) ≤ g by omega); simpa using this)
theorem cnt_le : ∀ {G : List Int}, Gp G → cnt G ≤ 40 ^ G.length
 | [], _ => by simp [cnt]
 | g :: G, h => by
  have h1 := cnt_le h.tail
  have h2 := h.head
  have h3 := cnt_pos h.tail
  simp only [cnt, List.length_cons, Int.pow_succ]
  rw [Int.mul_comm ((40:Int) ^ G.length)]
  exact Int.mul_le_mul h2.2 h1 (by omega) (by omega)
theorem pow40_le {n : Nat} (h : n ≤ 8) : (40 : Int) ^ n ≤ 6553600000000 := by
 have : n = 0 ∨ n = 1 ∨ n = 2 ∨ n = 3 ∨ n = 4 ∨ n = 5 ∨ n = 6 ∨ n = 7 ∨ n = 8 := by omega
 rcases this with rfl | rfl | rfl | rfl | rfl | rfl | rfl | rfl | rfl <;> decide
theorem cnt_small {G : List Int} (h : Gp G) (hl : G.length ≤ 8) : cnt G ≤ 6553600000000 := Int.le_trans (cnt_le h) (pow40_le hl)
theorem cnt_drop : ∀ {G : List Int} (i : Nat), Gp G → Gp (G.drop i)
 | G, i, h => fun x hx => h x (List.mem_of_mem_drop hx)
def numA : Int → List Int → List Int → Int
 | a, g :: G, s :: S => numA (a * g + s - 1) G S
 | a, _, _ => a
def num (G S : List Int) : Int := numA 0 G S
def Stt : List Int → List Int → Prop
 | [], [] => True
 | g :: G, s :: S => (1 ≤ s ∧ s ≤ g) ∧ Stt G S
 | _, _ => False
theorem Stt.length : ∀ {G S : List Int}, Stt G S → S.length = G.length
 | [], [], _ => rfl
 | g :: G, s :: S, h => by simp [Stt.length h.2]
 | [], _ :: _, h => h.elim
 | _ :: _, [], h => h.elim
theorem numA_eq : ∀ {G S : List Int} (a : Int), S.length = G.length → numA a G S = a * cnt G + numA 0 G S
 | [], [], a, _ => by simp [numA, cnt]
 | g :: G, s :: S, a, h => by
  have hl : S.length = G.length := by simpa using h
  simp only [numA, cnt]
  rw [numA_eq (a * g + s - 1) hl, numA_eq (0 * g + s - 1) hl]
  simp only [Int.add_mul, Int.sub_mul, Int.mul_assoc, Int.zero_mul, Int.one_mul]
  omega
 | [], _ :: _, _, h => by simp at h
 | _ :: _, [], _, h => by simp at h
theorem num_bnd : ∀ {G S : List Int}, Gp G → Stt G S → 0 ≤ num G S ∧ num G S < cnt G
 | [], [], _, _ => by simp [num, numA, cnt]
 | g :: G, s :: S, hG, h => by
  obtain ⟨h1, h2⟩ := num_bnd hG.tail h.2
  have hl := h.2.length
  unfold num at *
  simp only [numA, cnt]
  rw [numA_eq _ hl]
  have h3 := cnt_pos hG.tail
  have h4 : (0 * g + s - 1) * cnt G ≤ (g - 1) * cnt G := Int.mul_le_mul_of_nonneg_right (by have := h.1.2; omega) (by omega)
  have h5 : 0 ≤ (0 * g + s - 1) * cnt G := Int.mul_nonneg (by have := h.1.1; omega) (by omega)
  have h6 : (g - 1) * cnt G = g * cnt G - cnt G := by rw [Int.sub_mul, Int.one_mul]
  omega
 | [], _ :: _, _, h => h.elim
 | _ :: _, [], _, h => h.elim
def ofA : List Int → Int → List Int × Int
 | [], n => ([], n)
 | g :: G, n => (((ofA G n).2 % g + 1) :: (ofA G n).1, (ofA G n).2 / g)
def ofN (G : List Int) (n : Int) : List Int := (ofA G n).1
theorem ofA_len : ∀ (G : List Int) (n : Int), (ofA G n).1.length = G.length
 | [], _ => rfl
 | g :: G, n => by simp [ofA, ofA_len G n]
theorem ofN_len (G : List Int) (n : Int) : (ofN G n).length = G.length := ofA_len G n
theorem ofN_st : ∀ {G : List Int} (n : Int), Gp G → Stt G (ofN G n)
 | [], n, _ => trivial
 | g :: G, n, h => by
  have hg := h.head
  refine ⟨?_, ofN_st n h.tail⟩
  have := Int.emod_nonneg (ofA G n).2 (show g ≠ 0 by omega)
  have := Int.emod_lt_of_pos (ofA G n).2 (show 0 < g by omega)
  omega
theorem ofA_snd : ∀ {G : List Int} (n : Int), Gp G → (ofA G n).2 = n / cnt G
 | [], n, _ => by simp [ofA, cnt]
 | g :: G, n, h => by
  simp only [ofA, cnt]
  rw [ofA_snd n h.tail, Int.ediv_ediv_of_nonneg (by have := cnt_pos h.tail; omega), Int.mul_comm]
theorem num_ofA : ∀ {G : List Int} (n : Int), Gp G → num G (ofN G n) = n % cnt G
 | [], n, _ => by simp [num, numA, ofN, ofA, cnt]
 | g :: G, n, h => by
  have ih := num_ofA n h.tail
  have hl := ofN_len G n
  have hp := cnt_pos h.tail
  unfold num ofN at *
  simp only [numA, ofA, cnt]
  rw [numA_eq _ hl, ih, ofA_snd n h.tail]
  have e1 : (0 * g + (n / cnt G % g + 1) - 1) = n / cnt G % g := by omega
  rw [e1]
  have h1 := Int.emod_add_mul_ediv n (cnt G)
  have h2 := Int.emod_add_mul_ediv (n / cnt G) g
  have h3 := Int.emod_add_mul_ediv n (g * cnt G)
  have h4 : n / (g * cnt G) = n / cnt G / g := by rw [Int.ediv_ediv_of_nonneg (by omega), Int.mul_comm]
  rw [h4] at h3
  have h5 : g * cnt G * (n / cnt G / g) = g * (n / cnt G / g) * cnt G := by rw [Int.mul_assoc, Int.mul_comm (cnt G), ← Int.mul_assoc]
  have h6 : cnt G * (n / cnt G) = (n / cnt G) * cnt G := Int.mul_comm _ _
  rw [h5] at h3
  have h7 : (n / cnt G) * cnt G = (n / cnt G % g) * cnt G + g * (n / cnt G / g) * cnt G := by rw [← Int.add_mul, h2]
  omega
theorem num_ofN {G : List Int} {n : Int} (h : Gp G) (h0 : 0 ≤ n) (h1 : n < cnt G) : num G (ofN G n) = n := by
 rw [num_ofA n h, Int.emod_eq_of_lt h0 h1]
theorem st_eq : ∀ {G S S' : List Int}, Gp G → Stt G S → Stt G S' → num G S = num G S' → S = S'
 | [], [], [], _, _, _, _ => rfl
 | g :: G, s :: S, s' :: S', hG, h, h', e => by
  have hp := cnt_pos hG.tail
  obtain ⟨a1, a2⟩ := num_bnd hG.tail h.2
  obtain ⟨b1, b2⟩ := num_bnd hG.tail h'.2
  unfold num at *
  simp only [numA] at e
  rw [numA_eq _ h.2.length, numA_eq _ h'.2.length] at e
  have hs : s = s' := by
   rcases Int.lt_trichotomy s s' with hlt | rfl | hlt
   ·exfalso
    have : (0 * g + s - 1 + 1) * cnt G ≤ (0 * g + s' - 1) * cnt G := Int.mul_le_mul_of_nonneg_right (by omega) (by omega)
    rw [Int.add_mul, Int.one_mul] at this
    omega
   ·rfl
   ·exfalso
    have : (0 * g + s' - 1 + 1) * cnt G ≤ (0 * g + s - 1) * cnt G := Int.mul_le_mul_of_nonneg_right (by omega) (by omega)
    rw [Int.add_mul, Int.one_mul] at this
    omega
  subst hs
  rw [st_eq hG.tail h.2 h'.2 (by unfold num; omega)]
 | [], _ :: _, _, _, h, _, _ => h.elim
 | [], [], _ :: _, _, _, h, _ => h.elim
 | _ :: _, [], _, _, h, _, _ => h.elim
 | _ :: _, _ :: _, [], _, _, h, _ => h.elim
theorem ofN_num {G S : List Int} (h : Gp G) (hs : Stt G S) : ofN G (num G S) = S :=
 st_eq h (ofN_st _ h) hs (num_ofN h (num_bnd h hs).1 (num_bnd h hs).2)
def stepA (c : Int) : Int → List Int → List Int → Option (List Int)
 | j, g :: G, x :: S => if j = c then (stepA c (j + 1) G S).map (g :: ·) else if x < 2 then none else (stepA c (j + 1) G S).map ((x - 1) :: ·)
 | _, _, _ => some []
def step (G S : List Int) (c : Int) : Option (List Int) := stepA c 0 G S
theorem stepA_st {c : Int} : ∀ {j : Int} {G S T : List Int}, Gp G → Stt G S → stepA c j G S = some T → Stt G T
 | j, [], [], T, _, _, h => by simp [stepA] at h; subst h; trivial
 | j, g :: G, x :: S, T, hG, hs, h => by
  simp only [stepA] at h
  split at h
  ·obtain ⟨T', h1, rfl⟩ := Option.map_eq_some_iff.1 h
   exact ⟨⟨(hG.head).1, Int.le_refl _⟩, stepA_st hG.tail hs.2 h1⟩
  ·split at h
   ·cases h
   ·obtain ⟨T', h1, rfl⟩ := Option.map_eq_some_iff.1 h
    have := hs.1
    exact ⟨by omega, stepA_st hG.tail hs.2 h1⟩
 | j, [], _ :: _, _, _, h, _ => h.elim
 | j, _ :: _, [], _, _, h, _ => h.elim
theorem step_st {G S T : List Int} {c : Int} (hG : Gp G) (hs : Stt G S) (h : step G S c = some T) : Stt G T := stepA_st hG hs h
def chs (m : Nat) : List Int := (List.range (m + 1)).map fun i : Nat => (i : Int) - 1
def goodC (G : List Int) (L : List Bool) (n : Int) (c : Int) : Bool :=
 match step G (ofN G n) c with
 | some T => L.getD (num G T).toNat false
 | none => false
def keep (G : List Int) (L : List Bool) (n : Int) : List Int := (chs G.length).filter (goodC G L n)
def swp (good : List Bool → Nat → Bool) : Nat → Nat → List Bool → Bool → List Bool × Bool
 | 0, _, L, ch => (L, ch)
 | d + 1, i, L, ch => if L.getD i false = true then (if good L i = true then swp good d (i + 1) L ch else swp good d (i + 1) (L.set i false) true) else swp good d (i + 1) L ch
def fixO (good : List Bool → Nat → Bool) : Nat → List Bool → Bool → Option (List Bool)
 | 0, _, _ => none
 | n + 1, L, ch => match ch with
  | true => fixO good n (swp good L.length 0 L false).1 (swp good L.length 0 L false).2
  | false => some L
theorem swp_len (good : List Bool → Nat → Bool) : ∀ (d i : Nat) (L : List Bool) (ch : Bool), (swp good d i L ch).1.length = L.length
 | 0, _, _, _ => rfl
 | d + 1, i, L, ch => by
  simp only [swp]
  split
  ·split
   ·exact swp_len good d _ _ _
   ·rw [swp_len good d]; simp
  ·exact swp_len good d _ _ _
def trues (L : List Bool) : Nat := (L.filter (· = true)).length
theorem trues_set : ∀ {L : List Bool} {i : Nat}, L.getD i false = true → trues (L.set i false) + 1 = trues L
 | [], i, h => by simp at h
 | b :: L, 0, h => by
  have : b = true := by simpa using h
  subst this
  simp [trues]
 | b :: L, i + 1, h => by
  have ih := trues_set (L := L) (i := i) (by simpa using h)
  unfold trues at *
  cases b <;> simp [List.filter_cons] at * <;> omega
theorem swp_less (good : List Bool → Nat → Bool) : ∀ (d i : Nat) (L : List Bool) (ch : Bool), trues (swp good d i L ch).1 ≤ trues L ∧ ((swp good d i L ch).2 = true → ch = true ∨ trues (swp good d i L ch).1 < trues L)
 | 0, _, _, _ => ⟨Nat.le_refl _, fun h => .inl h⟩
 | d + 1, i, L, ch => by
  simp only [swp]
  split
  ·rename_i h1
   split
   ·exact swp_less good d _ _ _
   ·have := swp_less good d (i + 1) (L.set i false) true
    have h3 := trues_set h1
    exact ⟨by omega, fun _ => .inr (by omega)⟩
  ·exact swp_less good d _ _ _
theorem fix_some (good : List Bool → Nat → Bool) : ∀ (n : Nat) (L : List Bool) (ch : Bool), trues L + 1 < n → ∃ L', fixO good n L ch = some L' ∧ L'.length = L.length
 | 0, L, ch, h => by omega
 | n + 1, L, ch, h => by
  cases ch with
  | false => exact ⟨L, rfl, rfl⟩
  | true =>
   simp only [fixO]
   obtain ⟨h1, h2⟩ := swp_less good L.length 0 L false
   cases hc : (swp good L.length 0 L false).2 with
   | false =>
    cases n with
    | zero => omega
    | succ n => exact ⟨_, rfl, swp_len _ _ _ _ _⟩
   | true =>
    rcases h2 hc with h3 | h3
    ·cases h3
    ·obtain ⟨L', h4, h5⟩ := fix_some good n (swp good L.length 0 L false).1 true (by omega)
     exact ⟨L', h4, h5.trans (swp_len _ _ _ _ _)⟩
theorem trues_le (L : List Bool) : trues L ≤ L.length := List.length_filter_le _ _
theorem swp_congr {good good' : List Bool → Nat → Bool} {m : Nat} (h : ∀ L i, L.length = m → good L i = good' L i) : ∀ (d i : Nat) (L : List Bool) (ch : Bool), L.length = m → swp good d i L ch = swp good' d i L ch
 | 0, _, _, _, _ => rfl
 | d + 1, i, L, ch, hl => by
  simp only [swp, h L i hl]
  rw [swp_congr h d (i + 1) L ch hl, swp_congr h d (i + 1) (L.set i false) true (by simpa using hl)]
def lasting (G : List Int) : List Bool := (fixO (fun L i => (keep G L i) != []) 4003 (List.replicate (cnt G).toNat true) true).getD []
theorem isT_gp {G : List Int} (h : isT G = true) : Gp G := (isT_iff.1 h).2
theorem isT_len {G : List Int} (h : isT G = true) : 1 ≤ G.length ∧ G.length ≤ 8 := (isT_iff.1 h).1
theorem mul_bnd {a g c B : Int} (ha : 1 ≤ a) (hg : 1 ≤ g) (hc : 1 ≤ c) (h : a * (g * c) ≤ B) : 1 ≤ a * g ∧ a * g ≤ B := by
 have h1 : 1 ≤ a * g := by have := Int.mul_le_mul ha hg (by omega) (by omega); simpa using this
 refine ⟨h1, Int.le_trans ?_ h⟩
 rw [← Int.mul_assoc]
 have := Int.mul_le_mul_of_nonneg_left hc (show (0:Int) ≤ a * g by omega)
 simpa using this
theorem l02Count_loop {k : Nat} {G : List Int} (hG : Gp G) (hl : G.length ≤ 8) : ∀ (d i n : Nat) (a : Int), G.length - i = d → i ≤ G.length → d < n → 1 ≤ a → a * cnt (G.drop i) ≤ 6553600000000 →
  spec_l02Count.l0 k n G a i = some (a * cnt (G.drop i)) := by
 intro d
 induction d with
 | zero =>
  intro i n a hd hi hn ha hb
  obtain rfl : i = G.length := by omega
  cases n with
  | zero => omega
  | succ n =>
   simp only [spec_l02Count.l0, spec_l02Count.s0]
   rw [if_neg (by omega), List.drop_length]
   simp [cnt]
 | succ d ih =>
  intro i n a hd hi hn ha hb
  cases n with
  | zero => omega
  | succ n =>
   simp only [spec_l02Count.l0, spec_l02Count.s0]
   rw [drop_cons (by omega)] at hb ⊢
   simp only [cnt] at hb ⊢
   have hg := hG _ (rd_mem (l := G) (i := i) (by omega))
   have hc := cnt_pos (cnt_drop (i + 1) hG)
   obtain ⟨h1, h2⟩ := mul_bnd ha hg.1 hc hb
   rw [if_pos (by omega), if_pos (by omega), if_pos (by omega), w64 (by omega) (by omega), w64n (by omega), ih (i + 1) n _ (by omega) (by omega) (by omega) h1 (by rw [Int.mul_assoc]; exact hb), Int.mul_assoc]
theorem l02Count_f {k : Nat} {G : List Int} (hk : 2097152 ≤ k) (h : isT G = true) : spec_l02Count.f k G = some (cnt G) := by
 unfold spec_l02Count.f spec_l02Count.g
 have hc := cnt_small (isT_gp h) (isT_len h).2
 have := isT_len h
 have := l02Count_loop (k := k) (isT_gp h) (isT_len h).2 G.length 0 k 1 (by omega) (by omega) (by omega) (by omega) (by rw [List.drop_zero]; omega)
 exact this.trans (by rw [List.drop_zero, Int.one_mul])
theorem states_loop {k : Nat} {G : List Int} (hG : Gp G) (hl : G.length ≤ 8) : ∀ (d i n : Nat) (a : Int), G.length - i = d → i ≤ G.length → d < n → 1 ≤ a → a * cnt (G.drop i) ≤ 6553600000000 →
  impl_Tasks_states.l0 k n a G G.length i = some (a * cnt (G.drop i)) := by
 intro d
 induction d with
 | zero =>
  intro i n a hd hi hn ha hb
  obtain rfl : i = G.length := by omega
  cases n with
  | zero => omega
  | succ n =>
   simp only [impl_Tasks_states.l0, impl_Tasks_states.s0]
   rw [if_neg (by omega), List.drop_length]
   simp [cnt]
 | succ d ih =>
  intro i n a hd hi hn ha hb
  cases n with
  | zero => omega
  | succ n =>
   simp only [impl_Tasks_states.l0, impl_Tasks_states.s0]
   rw [drop_cons (by omega)] at hb ⊢
   simp only [cnt] at hb ⊢
   have hg := hG _ (rd_mem (l := G) (i := i) (by omega))
   have hc := cnt_pos (cnt_drop (i + 1) hG)
   obtain ⟨h1, h2⟩ := mul_bnd ha hg.1 hc hb
   rw [if_pos (by omega), if_pos (by omega), if_pos (by omega), w64 (by omega) (by omega), w64n (by omega), ih (i + 1) n _ (by omega) (by omega) (by omega) h1 (by rw [Int.mul_assoc]; exact hb), Int.mul_assoc]
theorem states_f {k : Nat} {G : List Int} (hk : 2097152 ≤ k) (h : isT G = true) : impl_Tasks_states.f k G = some (cnt G) := by
 unfold impl_Tasks_states.f impl_Tasks_states.g
 have hc := cnt_small (isT_gp h) (isT_len h).2
 have := isT_len h
 have := states_loop (k := k) (isT_gp h) (isT_len h).2 G.length 0 k 1 (by omega) (by omega) (by omega) (by omega) (by rw [List.drop_zero]; omega)
 exact this.trans (by rw [List.drop_zero, Int.one_mul])
theorem statesCode_f {k : Nat} {G : List Int} (hk : 2097152 ≤ k) (hl : G.length ≤ 1048576) (b : Bool) : impl_statesCode.f k G b = some (if isT G then (if b then (if 4000 < cnt G then 3 else 0) else 2) else 1) := by
 unfold impl_statesCode.f
 rw [tasksCode_f hk hl, Option.bind_some]
 cases h : isT G with
 | false => rfl
 | true =>
  cases b with
  | false => rfl
  | true =>
   simp only [if_true]
   rw [states_f hk h, Option.bind_some]
   split <;> rfl
theorem l02Few_f {k : Nat} {G : List Int} (hk : 2097152 ≤ k) (hl : G.length ≤ 1048576) : spec_l02Few.f k G = some (if isT G then (if 4000 < cnt G then 3 else 0) else 1) := by
 unfold spec_l02Few.f
 rw [l01Is_f hk hl, Option.bind_some]
 cases h : isT G with
 | false => rfl
 | true =>
  simp only [decide_true, Bool.not_true, Bool.false_eq_true, if_false, if_true]
  rw [l02Count_f hk h, Option.bind_some]
  by_cases hc : 4000 < cnt G <;> simp [hc]
theorem stt_at : ∀ {G S : List Int} {i : Nat}, Stt G S → i < G.length → 1 ≤ rd S i ∧ rd S i ≤ rd G i
 | g :: G, s :: S, 0, h, _ => by simpa [rd] using h.1
 | g :: G, s :: S, i + 1, h, hi => by
  have := stt_at (i := i) h.2 (by simpa using hi)
  rw [rd_nat, rd_nat] at this ⊢
  simpa using this
 | [], [], _, _, hi => by simp at hi
 | [], _ :: _, _, h, _ => h.elim
 | _ :: _, [], _, h, _ => h.elim
theorem num_next {a g s c B : Int} (ha : 0 ≤ a) (h1 : 1 ≤ s) (h2 : s ≤ g) (hc : 1 ≤ c) (h : (a + 1) * (g * c) ≤ B) : 0 ≤ a * g ∧ a * g + s ≤ B + 1 ∧ 0 ≤ a * g + s - 1 ∧ (a * g + s - 1 + 1) * c ≤ B := by
 have h3 : 0 ≤ a * g := Int.mul_nonneg ha (by omega)
 have h4 : (a * g + s - 1 + 1) * c ≤ (a + 1) * (g * c) := by
  rw [← Int.mul_assoc]
  refine Int.mul_le_mul_of_nonneg_right ?_ (by omega)
  rw [Int.add_mul, Int.one_mul]; omega
 have h5 : (a * g + s - 1 + 1) * 1 ≤ (a * g + s - 1 + 1) * c := Int.mul_le_mul_of_nonneg_left hc (by omega)
 omega
theorem l02Number_loop {k : Nat} {G S : List Int} (hG : Gp G) (hl : G.length ≤ 8) (hs : Stt G S) : ∀ (d i n : Nat) (a : Int), G.length - i = d → i ≤ G.length → d < n → 0 ≤ a → (a + 1) * cnt (G.drop i) ≤ 6553600000000 →
  spec_l02Number.l0 k n S G a i = some (numA a (G.drop i) (S.drop i)) := by
 have hsl := hs.length
 intro d
 induction d with
 | zero =>
  intro i n a hd hi hn ha hb
  obtain rfl : i = G.length := by omega
  cases n with
  | zero => omega
  | succ n =>
   simp only [spec_l02Number.l0, spec_l02Number.s0]
   rw [if_neg (by omega), List.drop_length]
   simp [numA]
 | succ d ih =>
  intro i n a hd hi hn ha hb
  cases n with
  | zero => omega
  | succ n =>
   simp only [spec_l02Number.l0, spec_l02Number.s0]
   rw [drop_cons (l := G) (by omega)] at hb ⊢
   rw [drop_cons (l := S) (by omega)]
   simp only [cnt, numA] at hb ⊢
   have hg := hG _ (rd_mem (l := G) (i := i) (by omega))
   have hc := cnt_pos (cnt_drop (i + 1) hG)
   obtain ⟨e1, e2⟩ := stt_at (i := i) hs (by omega)
   obtain ⟨q1, q2, q3, q4⟩ := num_next ha e1 e2 hc hb
   rw [if_pos (by omega), if_pos (by omega), if_pos (by omega), if_pos (by omega), if_pos (by omega), w64 (x := a * rd G i) (by omega) (by omega), w64 (x := a * rd G i + rd S i) (by omega) (by omega), w64 (by omega) (by omega), w64n (by omega),
    ih (i + 1) n _ (by omega) (by omega) (by omega) q3 q4]
theorem l02Number_f {k : Nat} {G S : List Int} (hk : 2097152 ≤ k) (h : isT G = true) (hs : Stt G S) : spec_l02Number.f k G S = some (num G S) := by
 unfold spec_l02Number.f spec_l02Number.g
 have hc := cnt_small (isT_gp h) (isT_len h).2
 have := isT_len h
 have := l02Number_loop (k := k) (isT_gp h) (isT_len h).2 hs G.length 0 k 0 (by omega) (by omega) (by omega) (by omega) (by rw [List.drop_zero]; omega)
 exact this
theorem number_loop {k : Nat} {G S : List Int} (hG : Gp G) (hl : G.length ≤ 8) (hs : Stt G S) : ∀ (d i n : Nat) (a : Int), G.length - i = d → i ≤ G.length → d < n → 0 ≤ a → (a + 1) * cnt (G.drop i) ≤ 6553600000000 →
  impl_Tasks_number.l0 k n G a S S.length i = some (numA a (G.drop i) (S.drop i)) := by
 have hsl := hs.length
 intro d
 induction d with
 | zero =>
  intro i n a hd hi hn ha hb
  obtain rfl : i = G.length := by omega
  cases n with
  | zero => omega
  | succ n =>
   simp only [impl_Tasks_number.l0, impl_Tasks_number.s0]
   rw [if_neg (by omega), List.drop_length]
   simp [numA]
 | succ d ih =>
  intro i n a hd hi hn ha hb
  cases n with
  | zero => omega
  | succ n =>
   simp only [impl_Tasks_number.l0, impl_Tasks_number.s0]
   rw [drop_cons (l := G) (by omega)] at hb ⊢
   rw [drop_cons (l := S) (by omega)]
   simp only [cnt, numA] at hb ⊢
   have hg := hG _ (rd_mem (l := G) (i := i) (by omega))
   have hc := cnt_pos (cnt_drop (i + 1) hG)
   obtain ⟨e1, e2⟩ := stt_at (i := i) hs (by omega)
   obtain ⟨q1, q2, q3, q4⟩ := num_next ha e1 e2 hc hb
   rw [if_pos (by omega), if_pos (by omega), if_pos (by omega), if_pos (by omega), if_pos (by omega), w64 (x := a * rd G i) (by omega) (by omega), w64 (x := a * rd G i + rd S i) (by omega) (by omega), w64 (by omega) (by omega), w64n (by omega),
    ih (i + 1) n _ (by omega) (by omega) (by omega) q3 q4]
theorem number_f {k : Nat} {G S : List Int} (hk : 2097152 ≤ k) (h : isT G = true) (hs : Stt G S) : impl_Tasks_number.f k G S = some (num G S) := by
 unfold impl_Tasks_number.f impl_Tasks_number.g
 have hc := cnt_small (isT_gp h) (isT_len h).2
 have := isT_len h
 have := number_loop (k := k) (isT_gp h) (isT_len h).2 hs G.length 0 k 0 (by omega) (by omega) (by omega) (by omega) (by rw [List.drop_zero]; omega)
 exact this
theorem ofA_nonneg : ∀ {G : List Int} {n : Int}, Gp G → 0 ≤ n → 0 ≤ (ofA G n).2 := by
 intro G n h hn
 rw [ofA_snd n h]
 exact Int.ediv_nonneg hn (by have := cnt_pos h; omega)
theorem ofA_le {G : List Int} {n : Int} (h : Gp G) (hn : 0 ≤ n) : (ofA G n).2 ≤ n := by
 rw [ofA_snd n h]
 exact Int.ediv_le_self _ hn
theorem set_rep (m : Nat) (x : Int) (done : List Int) : (List.replicate (m + 1) 0 ++ done).set m x = List.replicate m 0 ++ x :: done := by
 rw [List.replicate_succ', List.append_assoc, List.set_append_right _ _ (by simp)]
 simp
theorem l02Of_loop {k : Nat} {G : List Int} {v : Int} (hG : Gp G) (hl : G.length ≤ 8) (hv : 0 ≤ v) (hv2 : v ≤ 6553600000000) : ∀ (m n : Nat), m ≤ G.length → m < n →
  spec_l02Of.l0 k n (ofA (G.drop m) v).2 G (List.replicate m 0 ++ (ofA (G.drop m) v).1) ((m : Int) - 1) = some (ofN G v) := by
 intro m
 induction m with
 | zero =>
  intro n hm hn
  cases n with
  | zero => omega
  | succ n =>
   simp only [spec_l02Of.l0, spec_l02Of.s0]
   rw [if_neg (by omega), List.drop_zero]
   rfl
 | succ m ih =>
  intro n hm hn
  cases n with
  | zero => omega
  | succ n =>
   have hi : (((m + 1 : Nat) : Int) - 1) = (m : Int) := by omega
   have hg := hG _ (rd_mem (l := G) (i := m) (by omega))
   have hGd := cnt_drop (m + 1) hG
   have h1 := ofA_nonneg hGd hv
   have h2 := ofA_le hGd hv
   have hlen := ofA_len (G.drop (m + 1)) v
   rw [hi]
   simp only [spec_l02Of.l0, spec_l02Of.s0]
   rw [if_pos (by omega), if_pos (by omega), if_pos (by omega), if_neg (by omega), if_pos (by omega), if_pos (by simp; omega), if_pos (by omega), if_pos (by omega), if_neg (by omega)]
   have hd : ofA (G.drop m) v = (((ofA (G.drop (m + 1)) v).2 % rd G m + 1) :: (ofA (G.drop (m + 1)) v).1, (ofA (G.drop (m + 1)) v).2 / rd G m) := by
    rw [drop_cons (l := G) (i := m) (by omega)]; rfl
   have h3 := Int.emod_nonneg (ofA (G.drop (m + 1)) v).2 (show rd G m ≠ 0 by omega)
   have h4 := Int.emod_lt_of_pos (ofA (G.drop (m + 1)) v).2 (show 0 < rd G m by omega)
   have h5 := Int.ediv_nonneg h1 (show 0 ≤ rd G m by omega)
   have h6 := Int.ediv_le_self (rd G m) h1
   have := ih n (by omega) (by omega)
   rw [hd] at this
   rw [Int.tdiv_eq_ediv_of_nonneg h1, Int.tmod_eq_emod_of_nonneg h1, w64 (x := (ofA (G.drop (m + 1)) v).2 / rd G m) (by omega) (by omega), w64 (x := (ofA (G.drop (m + 1)) v).2 % rd G m + 1) (by omega) (by omega), w64 (x := (m : Int) - 1) (by omega) (by omega), Int.toNat_natCast, set_rep]
   exact this
theorem l02Of_f {k : Nat} {G : List Int} {v : Int} (hk : 2097152 ≤ k) (h : isT G = true) (hv : 0 ≤ v) (hv2 : v ≤ 6553600000000) : spec_l02Of.f k G v = some (ofN G v) := by
 unfold spec_l02Of.f spec_l02Of.g
 have := isT_len h
 rw [if_pos (by omega), if_pos (by omega), if_pos (by omega), Int.toNat_natCast, List.length_replicate, w64 (by omega) (by omega)]
 have := l02Of_loop (k := k) (isT_gp h) (isT_len h).2 hv hv2 G.length k (by omega) (by omega)
 rw [List.drop_length] at this
 simpa [ofA] using this
theorem numbered_loop {k : Nat} {G : List Int} {v : Int} (hG : Gp G) (hl : G.length ≤ 8) (hv : 0 ≤ v) (hv2 : v ≤ 6553600000000) : ∀ (m n : Nat), m ≤ G.length → m < n →
  impl_Tasks_numbered.l0 k n (ofA (G.drop m) v).2 G (List.replicate m 0 ++ (ofA (G.drop m) v).1) ((m : Int) - 1) = some (ofN G v) := by
 intro m
 induction m with
 | zero =>
  intro n hm hn
  cases n with
  | zero => omega
  | succ n =>
   simp only [impl_Tasks_numbered.l0, impl_Tasks_numbered.s0]
   rw [if_neg (by omega), List.drop_zero]
   rfl
 | succ m ih =>
  intro n hm hn
  cases n with
  | zero => omega
  | succ n =>
   have hi : (((m + 1 : Nat) : Int) - 1) = (m : Int) := by omega
   have hg := hG _ (rd_mem (l := G) (i := m) (by omega))
   have hGd := cnt_drop (m + 1) hG
   have h1 := ofA_nonneg hGd hv
   have h2 := ofA_le hGd hv
   have hlen := ofA_len (G.drop (m + 1)) v
   rw [hi]
   simp only [impl_Tasks_numbered.l0, impl_Tasks_numbered.s0]
   rw [if_pos (by omega), if_pos (by omega), if_pos (by omega), if_neg (by omega), if_pos (by omega), if_pos (by simp; omega), if_pos (by omega), if_pos (by omega), if_neg (by omega)]
   have hd : ofA (G.drop m) v = (((ofA (G.drop (m + 1)) v).2 % rd G m + 1) :: (ofA (G.drop (m + 1)) v).1, (ofA (G.drop (m + 1)) v).2 / rd G m) := by
    rw [drop_cons (l := G) (i := m) (by omega)]; rfl
   have h3 := Int.emod_nonneg (ofA (G.drop (m + 1)) v).2 (show rd G m ≠ 0 by omega)
   have h4 := Int.emod_lt_of_pos (ofA (G.drop (m + 1)) v).2 (show 0 < rd G m by omega)
   have h5 := Int.ediv_nonneg h1 (show 0 ≤ rd G m by omega)
   have h6 := Int.ediv_le_self (rd G m) h1
   have := ih n (by omega) (by omega)
   rw [hd] at this
   rw [Int.tdiv_eq_ediv_of_nonneg h1, Int.tmod_eq_emod_of_nonneg h1, w64 (x := (ofA (G.drop (m + 1)) v).2 / rd G m) (by omega) (by omega), w64 (x := (ofA (G.drop (m + 1)) v).2 % rd G m + 1) (by omega) (by omega), w64 (x := (m : Int) - 1) (by omega) (by omega), Int.toNat_natCast, set_rep]
   exact this
theorem numbered_f {k : Nat} {G : List Int} {v : Int} (hk : 2097152 ≤ k) (h : isT G = true) (hv : 0 ≤ v) (hv2 : v ≤ 6553600000000) : impl_Tasks_numbered.f k G v = some (ofN G v) := by
 unfold impl_Tasks_numbered.f impl_Tasks_numbered.g
 have := isT_len h
 rw [many_f, Option.bind_some, if_pos (by omega), if_pos (by omega), if_pos (by omega), Option.bind_some, Int.toNat_natCast, w64 (by omega) (by omega)]
 have := numbered_loop (k := k) (isT_gp h) (isT_len h).2 hv hv2 G.length k (by omega) (by omega)
 rw [List.drop_length] at this
 simpa [ofA] using this
theorem clone_f {l : List Int} (hl : l.length ≤ 1048576) : slices_Clone_int64_int64.f l = some l := by
 unfold slices_Clone_int64_int64.f
 by_cases h : l.length = 0
 ·rw [if_pos h, List.eq_nil_of_length_eq_zero h]
 ·rw [if_neg h, if_pos (by omega), List.nil_append]
def stepR (pre : List Int) (o : Option (List Int)) : List Int × Bool :=
 match o with
 | some T => (pre ++ T, true)
 | none => ([], false)
theorem stepR_map (pre : List Int) (x : Int) (o : Option (List Int)) : stepR pre (o.map (x :: ·)) = stepR (pre ++ [x]) o := by
 cases o <;> simp [stepR]
theorem l02Step_loop {k : Nat} {G S : List Int} {c : Int} (hG : Gp G) (hl : G.length ≤ 8) (hs : Stt G S) : ∀ (d i n : Nat) (out : List Int), G.length - i = d → i ≤ G.length → d < n → out.length = i →
  spec_l02Step.l0 k n S c G out i = some (stepR out (stepA c i (G.drop i) (S.drop i))) := by
 have hsl := hs.length
 intro d
 induction d with
 | zero =>
  intro i n out hd hi hn ho
  obtain rfl : i = G.length := by omega
  cases n with
  | zero => omega
  | succ n =>
   simp only [spec_l02Step.l0, spec_l02Step.s0]
   rw [if_neg (by omega), List.drop_length]
   simp [stepA, stepR]
 | succ d ih =>
  intro i n out hd hi hn ho
  cases n with
  | zero => omega
  | succ n =>
   simp only [spec_l02Step.l0, spec_l02Step.s0]
   have hg := hG _ (rd_mem (l := G) (i := i) (by omega))
   obtain ⟨e1, e2⟩ := stt_at (i := i) hs (by omega)
   rw [drop_cons (l := G) (by omega), drop_cons (l := S) (by omega), if_pos (by omega)]
   simp only [stepA]
   by_cases hc : (i : Int) = c
   ·rw [if_pos (by simpa using hc), if_pos hc, if_pos (by omega), if_pos (by omega), if_pos (by omega), w64n (by omega), ih (i + 1) n _ (by omega) (by omega) (by omega) (by simp [ho]), stepR_map]
    rfl
   ·rw [if_neg (by simpa using hc), if_neg hc, if_pos (by omega), if_pos (by omega)]
    by_cases h2 : rd S i < 2
    ·rw [if_pos (by simp; omega), if_pos h2]; rfl
    ·rw [if_neg (by simp; omega), if_neg h2, if_pos (by omega), if_pos (by omega), if_pos (by omega), w64 (by omega) (by omega), w64n (by omega), ih (i + 1) n _ (by omega) (by omega) (by omega) (by simp [ho]), stepR_map]
     rfl
theorem l02Step_f {k : Nat} {G S : List Int} (hk : 2097152 ≤ k) (h : isT G = true) (hs : Stt G S) (c : Int) : spec_l02Step.f k G S c = some (stepR [] (step G S c)) := by
 unfold spec_l02Step.f spec_l02Step.g
 have := isT_len h
 exact l02Step_loop (k := k) (isT_gp h) (isT_len h).2 hs G.length 0 k [] (by omega) (by omega) (by omega) rfl
theorem rd_app (pre S : List Int) (i : Nat) (h : pre.length = i) (hi : i < S.length) : rd (pre ++ S.drop i) i = rd S i := by
 rw [rd_nat, rd_nat, List.getD_eq_getElem?_getD, List.getElem?_append_right (by omega), List.getElem?_drop, List.getD_eq_getElem?_getD]
 congr 2
 omega
theorem set_app (pre S : List Int) (i : Nat) (x : Int) (h : pre.length = i) (hi : i < S.length) : (pre ++ S.drop i).set i x = (pre ++ [x]) ++ S.drop (i + 1) := by
 rw [List.set_append_right _ _ (by omega), drop_cons (l := S) hi]
 simp [h]
theorem step_loop {k : Nat} {G S : List Int} {c : Int} (hG : Gp G) (hl : G.length ≤ 8) (hs : Stt G S) : ∀ (d i n : Nat) (out : List Int), G.length - i = d → i ≤ G.length → d < n → out.length = i →
  impl_Tasks_step.l0 k n c G (out ++ S.drop i) S.length i = some (stepR out (stepA c i (G.drop i) (S.drop i))) := by
 have hsl := hs.length
 intro d
 induction d with
 | zero =>
  intro i n out hd hi hn ho
  obtain rfl : i = G.length := by omega
  cases n with
  | zero => omega
  | succ n =>
   simp only [impl_Tasks_step.l0, impl_Tasks_step.s0]
   rw [if_neg (by omega), List.drop_length, List.drop_eq_nil_of_le (by omega)]
   simp [stepA, stepR]
 | succ d ih =>
  intro i n out hd hi hn ho
  cases n with
  | zero => omega
  | succ n =>
   have hg := hG _ (rd_mem (l := G) (i := i) (by omega))
   obtain ⟨e1, e2⟩ := stt_at (i := i) hs (by omega)
   have hlen : (out ++ S.drop i).length = S.length := by simp; omega
   simp only [impl_Tasks_step.l0, impl_Tasks_step.s0]
   rw [hlen, rd_app out S i ho (by omega), Int.toNat_natCast, set_app out S i _ ho (by omega), set_app out S i _ ho (by omega)]
   conv => rhs; rw [drop_cons (l := G) (i := i) (by omega), drop_cons (l := S) (i := i) (by omega)]
   rw [if_pos (by omega)]
   simp only [stepA]
   by_cases hc : (i : Int) = c
   ·rw [if_pos (by simpa using hc), if_pos hc, if_pos (by omega), if_pos (by omega), if_pos (by omega), if_pos (by omega), w64n (by omega), ih (i + 1) n _ (by omega) (by omega) (by omega) (by simp [ho]), stepR_map]
    rfl
   ·rw [if_neg (by simpa using hc), if_neg hc, if_pos (by omega), if_pos (by omega)]
    by_cases h2 : rd S i < 2
    ·rw [if_pos (by simpa using h2), if_pos h2]; rfl
    ·rw [if_neg (by simpa using h2), if_neg h2, if_pos (by omega), if_pos (by omega), if_pos (by omega), if_pos (by omega), w64 (x := rd S i - 1) (by omega) (by omega), w64n (by omega), ih (i + 1) n _ (by omega) (by omega) (by omega) (by simp [ho]), stepR_map]
     rfl
theorem step_f {k : Nat} {G S : List Int} (hk : 2097152 ≤ k) (h : isT G = true) (hs : Stt G S) (c : Int) : impl_Tasks_step.f k G S c = some (stepR [] (step G S c)) := by
 unfold impl_Tasks_step.f impl_Tasks_step.g
 have := isT_len h
 have hsl := hs.length
 rw [clone_f (by omega), Option.bind_some]
 exact step_loop (k := k) (isT_gp h) (isT_len h).2 hs G.length 0 k [] (by omega) (by omega) (by omega) rfl
def chsF (j d : Nat) : List Int := (List.range' j d).map fun i : Nat => (i : Int) - 1
theorem chsF_succ (j d : Nat) : chsF j (d + 1) = ((j : Int) - 1) :: chsF (j + 1) d := by
 simp [chsF, List.range'_succ]
theorem chs_eq (m : Nat) : chs m = chsF 0 (m + 1) := by
 unfold chs chsF
 rw [List.range_eq_range']
theorem mgI_nil {α : Type} (x : Int) : mgI ([] : List (Int × α)) x = none := rfl
theorem mgI_cons {α : Type} (a : Int) (y : α) (l : List (Int × α)) (x : Int) : mgI ((a, y) :: l) x = if x = a then some y else mgI l x := by
 show (match keyI x a with | true => some y | false => mget (.int .i64) l x) = _
 by_cases h : x = a
 ·rw [(keyI_iff x a).2 h, if_pos h]
 ·rw [if_neg h]
  cases hk : keyI x a with
  | true => exact absurd ((keyI_iff x a).1 hk) h
  | false => rfl
theorem mpI_nil {α : Type} (x : Int) (y : α) : mpI ([] : List (Int × α)) x y = [(x, y)] := rfl
theorem mpI_cons {α : Type} (a : Int) (z : α) (l : List (Int × α)) (x : Int) (y : α) : mpI ((a, z) :: l) x y = if x = a then (x, y) :: l else (a, z) :: mpI l x y := by
 show (match keyI x a with | true => (x, y) :: l | false => (a, z) :: mput (.int .i64) l x y) = _
 by_cases h : x = a
 ·rw [(keyI_iff x a).2 h, if_pos h]
 ·rw [if_neg h]
  cases hk : keyI x a with
  | true => exact absurd ((keyI_iff x a).1 hk) h
  | false => rfl
theorem mpI_new {α : Type} {l : List (Int × α)} {x : Int} {y : α} (h : ∀ p ∈ l, p.1 ≠ x) : mpI l x y = l ++ [(x, y)] := by
 induction l with
 | nil => rfl
 | cons p l ih =>
  obtain ⟨a, z⟩ := p
  rw [mpI_cons, if_neg (fun e => h (a, z) (by simp) e.symm), ih (fun p hp => h p (by simp [hp]))]
  rfl
theorem mgI_none {α : Type} {l : List (Int × α)} {x : Int} (h : ∀ p ∈ l, p.1 ≠ x) : mgI l x = none := by
 induction l with
 | nil => rfl
 | cons p l ih =>
  obtain ⟨a, z⟩ := p
  rw [mgI_cons, if_neg (fun e => h (a, z) (by simp) e.symm), ih (fun p hp => h p (by simp [hp]))]
theorem mgI_mpI {α : Type} (l : List (Int × α)) (x z : Int) (y : α) : mgI (mpI l x y) z = if z = x then some y else mgI l z := by
 induction l with
 | nil => rw [mpI_nil, mgI_cons]
 | cons p l ih =>
  obtain ⟨a, w⟩ := p
  rw [mpI_cons]
  by_cases h : x = a
  ·rw [if_pos h, mgI_cons]
   subst h
   by_cases h2 : z = x
   ·rw [if_pos h2, if_pos h2]
   ·rw [if_neg h2, if_neg h2, mgI_cons, if_neg h2]
  ·rw [if_neg h, mgI_cons, ih, mgI_cons]
   by_cases h2 : z = a
   ·rw [if_pos h2, if_pos h2, if_neg (fun e => h (e.symm.trans h2))]
   ·rw [if_neg h2, if_neg h2]
def ent (G : List Int) (v : Int) (c : Int) : Option (Int × Int) := (step G (ofN G v) c).map fun T => (c, num G T)
def nxF (G : List Int) (v : Int) (j d : Nat) : List (Int × Int) := (chsF j d).filterMap (ent G v)
def nx (G : List Int) (v : Int) : List (Int × Int) := nxF G v 0 (G.length + 1)
theorem nxF_succ (G : List Int) (v : Int) (j d : Nat) : nxF G v j (d + 1) = (match ent G v ((j : Int) - 1) with | some p => p :: nxF G v (j + 1) d | none => nxF G v (j + 1) d) := by
 unfold nxF
 rw [chsF_succ, List.filterMap_cons]
 cases ent G v ((j : Int) - 1) <;> rfl
theorem nxF_ge (G : List Int) (v : Int) : ∀ (d j : Nat), ∀ p ∈ nxF G v j d, (j : Int) - 1 ≤ p.1 := by
 intro d j p hp
 unfold nxF at hp
 obtain ⟨c, hc, he⟩ := List.mem_filterMap.1 hp
 obtain ⟨i, hi, rfl⟩ := List.mem_map.1 hc
 unfold ent at he
 obtain ⟨T, _, rfl⟩ := Option.map_eq_some_iff.1 he
 have := List.mem_range'_1.1 hi
 show (j : Int) - 1 ≤ (i : Int) - 1
 omega
theorem mgI_nxF (G : List Int) (v : Int) : ∀ (d j i : Nat), j ≤ i → i < j + d → mgI (nxF G v j d) ((i : Int) - 1) = (step G (ofN G v) ((i : Int) - 1)).map (num G)
 | 0, j, i, h1, h2 => by omega
 | d + 1, j, i, h1, h2 => by
  rw [nxF_succ]
  by_cases e : i = j
  ·subst e
   unfold ent
   cases hs : step G (ofN G v) ((i : Int) - 1) with
   | none =>
    simp only [Option.map_none]
    exact mgI_none fun p hp e => by have := nxF_ge G v d (i + 1) p hp; omega
   | some T => simp only [Option.map_some]; rw [mgI_cons, if_pos rfl]
  ·have ih := mgI_nxF G v d (j + 1) i (by omega) (by omega)
   unfold ent
   cases hs : step G (ofN G v) ((j : Int) - 1) with
   | none => exact ih
   | some T =>
    simp only [Option.map_some]
    rw [mgI_cons, if_neg (by omega)]
    exact ih
theorem mgI_nx {G : List Int} {v : Int} {i : Nat} (h : i ≤ G.length) : mgI (nx G v) ((i : Int) - 1) = (step G (ofN G v) ((i : Int) - 1)).map (num G) :=
 mgI_nxF G v (G.length + 1) 0 i (by omega) (by omega)
def nxs (G : List Int) (m : Nat) : List (List (Int × Int)) := (List.range m).map fun i : Nat => nx G (i : Int)
theorem rdOf_nxs {G : List Int} {m i : Nat} (h : i < m) : rdOf ([] : List (Int × Int)) (nxs G m) (i : Int) = nx G (i : Int) := by
 rw [rdOf_lt (by simp [nxs]; exact h)]
 simp [nxs]
theorem getD_set_same {L : List Bool} {i : Nat} {b d : Bool} (h : i < L.length) : (L.set i b).getD i d = b := by
 rw [List.getD_eq_getElem?_getD, List.getElem?_set_self (by omega)]; rfl
theorem ofN_num_bnd {G : List Int} {v c : Int} {T : List Int} (h : isT G = true) (hs : step G (ofN G v) c = some T) : Stt G T ∧ 0 ≤ num G T ∧ num G T < cnt G := by
 have h1 := step_st (isT_gp h) (ofN_st v (isT_gp h)) hs
 exact ⟨h1, num_bnd (isT_gp h) h1⟩
theorem keeping_loop {k : Nat} {G : List Int} {L : List Bool} {v : Nat} (h : isT G = true) (hL : (L.length : Int) = cnt G) (hv : v < L.length) : ∀ (d j n : Nat) (out : List Int), G.length + 1 - j = d → j ≤ G.length + 1 → d < n → out.length ≤ j →
  impl_graph_keeping.l0 k n (G, nxs G L.length, L) v out ((j : Int) - 1) = some (out ++ (chsF j d).filter (goodC G L v)) := by
 have hlen := isT_len h
 intro d
 induction d with
 | zero =>
  intro j n out hd hj hn ho
  cases n with
  | zero => omega
  | succ n =>
   simp only [impl_graph_keeping.l0, impl_graph_keeping.s0, many_f, Option.bind_some]
   rw [if_neg (by omega)]
   simp [chsF]
 | succ d ih =>
  intro j n out hd hj hn ho
  cases n with
  | zero => omega
  | succ n =>
   simp only [impl_graph_keeping.l0, impl_graph_keeping.s0, many_f, Option.bind_some]
   have hnl : (nxs G L.length).length = L.length := by simp [nxs]
   have e1 : wrap64 ((j : Int) - 1 + 1) = ((j + 1 : Nat) : Int) - 1 := by rw [w64 (by omega) (by omega)]; omega
   rw [if_pos (by omega), if_pos (by omega), if_pos (by omega), rdOf_nxs hv, mgI_nx (by omega), chsF_succ, List.filter_cons, e1]
   cases hs : step G (ofN G v) ((j : Int) - 1) with
   | none =>
    have hg : goodC G L v ((j : Int) - 1) = false := by simp [goodC, hs]
    simp only [Option.map_none, Option.isSome_none, Bool.false_eq_true, if_false, hg]
    exact ih (j + 1) n out (by omega) (by omega) (by omega) (by omega)
   | some T =>
    obtain ⟨_, b1, b2⟩ := ofN_num_bnd h hs
    have hg : goodC G L v ((j : Int) - 1) = L.getD (num G T).toNat false := by simp [goodC, hs]
    simp only [Option.map_some, Option.isSome_some, if_true, Option.getD_some]
    rw [if_pos b1, if_pos (by omega), hg]
    cases hb : L.getD (num G T).toNat false with
    | true =>
     rw [if_pos (show rdOf false L (num G T) = true from hb)]
     simp only [if_true]
     rw [if_pos (by omega), ih (j + 1) n _ (by omega) (by omega) (by omega) (by simp; omega)]
     simp
    | false =>
     rw [if_neg (show ¬ rdOf false L (num G T) = true from by rw [show rdOf false L (num G T) = false from hb]; simp)]
     simp only [Bool.false_eq_true, if_false]
     exact ih (j + 1) n out (by omega) (by omega) (by omega) (by omega)
theorem keeping_f {k : Nat} {G : List Int} {L : List Bool} {v : Nat} (hk : 2097152 ≤ k) (h : isT G = true) (hL : (L.length : Int) = cnt G) (hv : v < L.length) : impl_graph_keeping.f k (G, nxs G L.length, L) v = some (keep G L v) := by
 unfold impl_graph_keeping.f impl_graph_keeping.g
 have := isT_len h
 have := keeping_loop (k := k) h hL hv (G.length + 1) 0 k [] (by omega) (by omega) (by omega) (by simp)
 rw [keep, chs_eq]
 exact this
def goodK (G : List Int) (L : List Bool) (i : Nat) : Bool := (keep G L i) != []
theorem goodK_t {G : List Int} {L : List Bool} {i : Nat} (h : keep G L i ≠ []) : goodK G L i = true := by simp [goodK, h]
theorem goodK_f {G : List Int} {L : List Bool} {i : Nat} (h : keep G L i = []) : ¬ goodK G L i = true := by simp [goodK, h]
theorem swp_end (g : List Bool → Nat → Bool) (d i : Nat) (L : List Bool) (ch : Bool) (hb : ¬ L.getD i false = true) : swp g (d + 1) i L ch = swp g d (i + 1) L ch := if_neg hb
theorem swp_good {g : List Bool → Nat → Bool} {d i : Nat} {L : List Bool} {ch : Bool} (hb : L.getD i false = true) (hg : g L i = true) : swp g (d + 1) i L ch = swp g d (i + 1) L ch := (if_pos hb).trans (if_pos hg)
theorem swp_bad {g : List Bool → Nat → Bool} {d i : Nat} {L : List Bool} {ch : Bool} (hb : L.getD i false = true) (hg : ¬ g L i = true) : swp g (d + 1) i L ch = swp g d (i + 1) (L.set i false) true := (if_pos hb).trans (if_neg hg)
theorem swp_set_len (L : List Bool) (i : Nat) : (L.set i false).length = L.length := by simp
theorem graph_l3 {k : Nat} {G : List Int} {m : Nat} (hk : 2097152 ≤ k) (h : isT G = true) (hm : (m : Int) = cnt G) {r2 : (List Int) → (List (List (Int × Int))) → (List Bool) → Bool → Option (((List Int) × (List (List (Int × Int))) × (List Bool)))} :
  ∀ (d i n : Nat) (L : List Bool) (ch : Bool), L.length = m → m - i = d → i ≤ m → d < n →
   impl_graphOf.l3 k r2 n G (nxs G m) L ch m i = r2 G (nxs G m) (swp (goodK G) d i L ch).1 (swp (goodK G) d i L ch).2 := by
 have hc := cnt_small (isT_gp h) (isT_len h).2
 intro d
 induction d with
 | zero =>
  intro i n L ch hL hd hi hn
  cases n with
  | zero => omega
  | succ n =>
   simp only [impl_graphOf.l3, impl_graphOf.s3]
   rw [if_neg (by omega)]
   rfl
 | succ d ih =>
  intro i n L ch hL hd hi hn
  cases n with
  | zero => omega
  | succ n =>
   simp only [impl_graphOf.l3, impl_graphOf.s3]
   rw [if_pos (by omega), if_pos (by omega), if_pos (by omega), rdOf_nat, w64n (by omega)]
   have hkeep := keeping_f hk h (L := L) (v := i) (by omega) (by omega)
   rw [hL] at hkeep
   rw [hkeep, Option.bind_some]
   by_cases hb : L.getD i false = true
   ·rw [if_pos hb]
    by_cases hg : keep G L i = []
    ·rw [if_pos (by rw [hg]; rfl), if_pos (by omega), if_pos (by omega), Int.toNat_natCast, swp_bad hb (goodK_f hg), ih (i + 1) n _ _ (by simpa using hL) (by omega) (by omega) (by omega)]
    ·rw [if_neg (by have : (keep G L i).length ≠ 0 := fun e => hg (List.eq_nil_of_length_eq_zero e); omega), swp_good hb (goodK_t hg), ih (i + 1) n _ _ hL (by omega) (by omega) (by omega)]
   ·rw [if_neg hb, swp_end _ _ _ _ _ hb, ih (i + 1) n _ _ hL (by omega) (by omega) (by omega)]
theorem graph_l2 {k : Nat} {G : List Int} {m : Nat} (hk : 2097152 ≤ k) (h : isT G = true) (hm : (m : Int) = cnt G) (hm2 : m ≤ 100000) : ∀ (n : Nat) (L : List Bool) (ch : Bool), L.length = m →
  impl_graphOf.l2 k n G (nxs G m) L ch = (fixO (goodK G) n L ch).map fun L => (G, nxs G m, L)
 | 0, L, ch, hL => rfl
 | n + 1, L, ch, hL => by
  simp only [impl_graphOf.l2, impl_graphOf.s2, fixO]
  cases ch with
  | false => simp
  | true =>
   simp only [if_true]
   have := graph_l3 (r2 := impl_graphOf.l2 k n) hk h hm m 0 k L false hL (by omega) (by omega) (by omega)
   rw [show (L.length : Int) = (m : Int) by omega]
   rw [show impl_graphOf.l3 k (impl_graphOf.l2 k n) k G (nxs G m) L false m 0 = _ from this, graph_l2 hk h hm hm2 n _ _ (by rw [swp_len]; exact hL), hL]
theorem graph_l1 {k : Nat} {G : List Int} {v : Nat} (hk : 2097152 ≤ k) (h : isT G = true) (hv : (v : Int) < cnt G) {r0 : (List Int) → (List Int) → (List (List (Int × Int))) → (List Bool) → Int → Int → Option (((List Int) × (List (List (Int × Int))) × (List Bool)))}
  {NX : List (List (Int × Int))} {L : List Bool} {N : Int} (h1 : NX.length ≤ 1048576) (h2 : L.length ≤ 1048576) : ∀ (d j n : Nat) (M : List (Int × Int)), G.length + 1 - j = d → j ≤ G.length + 1 → d < n → (∀ p ∈ M, p.1 < (j : Int) - 1) →
   impl_graphOf.l1 k r0 n G G NX L v M ((j : Int) - 1) N v = r0 G G (NX ++ [M ++ nxF G v j d]) (L ++ [true]) N ((v + 1 : Nat) : Int) := by
 have hlen := isT_len h
 have hc := cnt_small (isT_gp h) (isT_len h).2
 intro d
 induction d with
 | zero =>
  intro j n M hd hj hn hM
  cases n with
  | zero => omega
  | succ n =>
   simp only [impl_graphOf.l1, impl_graphOf.s1, many_f, Option.bind_some]
   rw [if_neg (by omega), if_pos (by omega), if_pos (by omega), w64n (by omega)]
   simp [nxF, chsF]
 | succ d ih =>
  intro j n M hd hj hn hM
  cases n with
  | zero => omega
  | succ n =>
   have hst := ofN_st (v : Int) (isT_gp h)
   have e1 : wrap64 ((j : Int) - 1 + 1) = ((j + 1 : Nat) : Int) - 1 := by rw [w64 (by omega) (by omega)]; omega
   simp only [impl_graphOf.l1, impl_graphOf.s1, many_f, Option.bind_some]
   rw [if_pos (by omega), numbered_f hk h (by omega) (by omega), Option.bind_some, step_f hk h hst, Option.bind_some, e1, nxF_succ]
   unfold ent
   cases hs : step G (ofN G v) ((j : Int) - 1) with
   | none =>
    simp only [stepR, Bool.false_eq_true, if_false, Option.map_none]
    exact ih (j + 1) n M (by omega) (by omega) (by omega) (fun p hp => by have := hM p hp; omega)
   | some T =>
    obtain ⟨b0, b1, b2⟩ := ofN_num_bnd h hs
    simp only [stepR, if_true, Option.map_some, List.nil_append]
    rw [number_f hk h b0, Option.bind_some, mpI_new (fun p hp e => by have := hM p hp; omega), ih (j + 1) n _ (by omega) (by omega) (by omega) (fun p hp => by
     rcases List.mem_append.1 hp with hp | hp
     ·have := hM p hp; omega
     ·simp only [List.mem_singleton] at hp; subst hp; show (j : Int) - 1 < _; omega)]
    simp
theorem nxs_succ (G : List Int) (m : Nat) : nxs G (m + 1) = nxs G m ++ [nx G m] := by
 simp [nxs, List.range_succ]
theorem graph_l0 {k : Nat} {G : List Int} {m : Nat} (hk : 2097152 ≤ k) (h : isT G = true) (hm : (m : Int) = cnt G) (hm2 : m ≤ 100000) : ∀ (d i n : Nat), m - i = d → i ≤ m → d < n →
  impl_graphOf.l0 k n G G (nxs G i) (List.replicate i true) m i = (fixO (goodK G) k (List.replicate m true) true).map fun L => (G, nxs G m, L) := by
 have hlen := isT_len h
 intro d
 induction d with
 | zero =>
  intro i n hd hi hn
  obtain rfl : i = m := by omega
  cases n with
  | zero => omega
  | succ n =>
   simp only [impl_graphOf.l0, impl_graphOf.s0]
   rw [if_neg (by omega), graph_l2 hk h hm hm2 k _ _ (by simp)]
 | succ d ih =>
  intro i n hd hi hn
  cases n with
  | zero => omega
  | succ n =>
   simp only [impl_graphOf.l0, impl_graphOf.s0]
   have := graph_l1 (v := i) (r0 := impl_graphOf.l0 k n) (NX := nxs G i) (L := List.replicate i true) (N := (m : Int)) hk h (by omega) (by simp [nxs]; omega) (by simp; omega) (G.length + 1) 0 k [] (by omega) (by omega) (by omega) (by simp)
   rw [if_pos (by omega)]
   refine Eq.trans this ?_
   rw [List.nil_append, ← List.replicate_succ', show nxF G i 0 (G.length + 1) = nx G i from rfl, ← nxs_succ]
   exact ih (i + 1) n (by omega) (by omega) (by omega)
theorem fix_mono (good : List Bool → Nat → Bool) : ∀ (n n' : Nat) (L L' : List Bool) (ch : Bool), n ≤ n' → fixO good n L ch = some L' → fixO good n' L ch = some L'
 | 0, _, _, _, _, _, h => by cases h
 | n + 1, 0, _, _, _, h, _ => by omega
 | n + 1, n' + 1, L, L', ch, h, e => by
  cases ch with
  | false => exact e
  | true => exact fix_mono good n n' _ _ _ (by omega) e
theorem lasting_fix {G : List Int} (h : isT G = true) (hc : cnt G ≤ 4000) {k : Nat} (hk : 4003 ≤ k) : fixO (goodK G) k (List.replicate (cnt G).toNat true) true = some (lasting G) ∧ ((lasting G).length : Int) = cnt G := by
 have hp := cnt_pos (isT_gp h)
 obtain ⟨L', h1, h2⟩ := fix_some (goodK G) 4003 (List.replicate (cnt G).toNat true) true (by have := trues_le (List.replicate (cnt G).toNat true); simp at this; omega)
 have e : lasting G = L' := by
  unfold lasting
  rw [show (fun L i => (keep G L (i : Nat)) != []) = goodK G from rfl, h1]; rfl
 rw [e]
 refine ⟨fix_mono _ _ _ _ _ _ hk h1, ?_⟩
 rw [h2]; simp; omega
theorem graphOf_f {k : Nat} {G : List Int} (hk : 2097152 ≤ k) (h : isT G = true) (hc : cnt G ≤ 4000) : impl_graphOf.f k G = some (G, nxs G (lasting G).length, lasting G) := by
 have hp := cnt_pos (isT_gp h)
 unfold impl_graphOf.f impl_graphOf.g
 rw [states_f hk h, Option.bind_some]
 obtain ⟨h1, h2⟩ := lasting_fix h hc (k := k) (by omega)
 have := graph_l0 (m := (cnt G).toNat) hk h (by omega) (by omega) (cnt G).toNat 0 k (by omega) (by omega) (by omega)
 rw [h1, show (((cnt G).toNat : Nat) : Int) = cnt G by omega] at this
 refine Eq.trans this ?_
 rw [Option.map_some, show (cnt G).toNat = (lasting G).length by omega]
theorem filter_goodC_nil {G : List Int} {L : List Bool} {v : Int} {j d : Nat} : ((chsF j (d + 1)).filter (goodC G L v) = []) ↔ (goodC G L v ((j : Int) - 1) = false ∧ (chsF (j + 1) d).filter (goodC G L v) = []) := by
 rw [chsF_succ, List.filter_cons]
 cases goodC G L v ((j : Int) - 1) <;> simp
theorem lasting_l3 {k : Nat} {G : List Int} {L : List Bool} {v m : Nat} (hk : 2097152 ≤ k) (h : isT G = true) (hL : L.length = m) (hm : (m : Int) = cnt G) (hv : v < m) {ch : Bool} {r1 : (List Int) → Int → (List Bool) → Bool → Option ((List Bool))} {r2 : (List Int) → Int → (List Bool) → Bool → Int → Option ((List Bool))} :
  ∀ (d j n : Nat) (good : Bool), G.length + 1 - j = d → j ≤ G.length + 1 → d < n →
   spec_l02Lasting.l3 k r1 r2 n G m L ch v (ofN G v) good ((j : Int) - 1) = if good = true ∨ (chsF j d).filter (goodC G L v) ≠ [] then r2 G m L ch ((v + 1 : Nat) : Int) else r2 G m (L.set v false) true ((v + 1 : Nat) : Int) := by
 have hlen := isT_len h
 have hc := cnt_small (isT_gp h) (isT_len h).2
 have hst := ofN_st (v : Int) (isT_gp h)
 intro d
 induction d with
 | zero =>
  intro j n good hd hj hn
  cases n with
  | zero => omega
  | succ n =>
   simp only [spec_l02Lasting.l3, spec_l02Lasting.s3, l01K_f, Option.bind_some]
   rw [if_neg (by omega), w64n (by omega)]
   cases good with
   | true => simp [chsF]
   | false => rw [if_neg (by simp), if_pos (by omega), if_pos (by omega), Int.toNat_natCast]; simp [chsF]
 | succ d ih =>
  intro j n good hd hj hn
  cases n with
  | zero => omega
  | succ n =>
   have e1 : wrap64 ((j : Int) - 1 + 1) = ((j + 1 : Nat) : Int) - 1 := by rw [w64 (by omega) (by omega)]; omega
   simp only [spec_l02Lasting.l3, spec_l02Lasting.s3, l01K_f, Option.bind_some]
   rw [if_pos (by omega), w64n (by omega)]
   cases good with
   | true => simp
   | false =>
    simp only [Bool.false_eq_true, if_false, false_or]
    rw [l02Step_f hk h hst, Option.bind_some, e1]
    cases hs : step G (ofN G v) ((j : Int) - 1) with
    | none =>
     have hg : goodC G L v ((j : Int) - 1) = false := by simp [goodC, hs]
     simp only [stepR, Bool.false_eq_true, if_false]
     rw [ih (j + 1) n false (by omega) (by omega) (by omega)]
     simp [chsF_succ, List.filter_cons, hg]
    | some T =>
     obtain ⟨b0, b1, b2⟩ := ofN_num_bnd h hs
     have hg : goodC G L v ((j : Int) - 1) = L.getD (num G T).toNat false := by simp [goodC, hs]
     simp only [stepR, if_true, List.nil_append]
     rw [l02Number_f hk h b0, Option.bind_some, if_pos b1, if_pos (by omega), show rdOf false L (num G T) = L.getD (num G T).toNat false from rfl, ih (j + 1) n _ (by omega) (by omega) (by omega), ← hg]
     cases hb : goodC G L v ((j : Int) - 1) with
     | true => simp [chsF_succ, List.filter_cons, hb]
     | false => simp [chsF_succ, List.filter_cons, hb]
theorem lasting_l2 {k : Nat} {G : List Int} {m : Nat} (hk : 2097152 ≤ k) (h : isT G = true) (hm : (m : Int) = cnt G) {r1 : (List Int) → Int → (List Bool) → Bool → Option ((List Bool))} :
  ∀ (d i n : Nat) (L : List Bool) (ch : Bool), L.length = m → m - i = d → i ≤ m → d < n →
   spec_l02Lasting.l2 k r1 n G m L ch i = r1 G m (swp (goodK G) d i L ch).1 (swp (goodK G) d i L ch).2 := by
 have hc := cnt_small (isT_gp h) (isT_len h).2
 have hlen := isT_len h
 intro d
 induction d with
 | zero =>
  intro i n L ch hL hd hi hn
  cases n with
  | zero => omega
  | succ n =>
   simp only [spec_l02Lasting.l2, spec_l02Lasting.s2]
   rw [if_neg (by omega)]
   rfl
 | succ d ih =>
  intro i n L ch hL hd hi hn
  cases n with
  | zero => omega
  | succ n =>
   simp only [spec_l02Lasting.l2, spec_l02Lasting.s2]
   rw [if_pos (by omega), if_pos (by omega), if_pos (by omega), rdOf_nat, w64n (by omega), l02Of_f hk h (by omega) (by omega), Option.bind_some]
   have := lasting_l3 (L := L) (v := i) (m := m) (ch := ch) (r1 := r1) (r2 := spec_l02Lasting.l2 k r1 n) hk h hL hm (by omega) (G.length + 1) 0 k false (by omega) (by omega) (by omega)
   rw [show spec_l02Lasting.l3 k r1 (spec_l02Lasting.l2 k r1 n) k G m L ch i (ofN G i) false (-1) = _ from this]
   by_cases hb : L.getD i false = true
   ·rw [if_pos hb]
    by_cases hg : keep G L i = []
    ·rw [if_neg (by rw [keep, chs_eq] at hg; simp [hg]), swp_bad hb (goodK_f hg), ih (i + 1) n _ _ (by simpa using hL) (by omega) (by omega) (by omega)]
    ·rw [if_pos (Or.inr (by rw [keep, chs_eq] at hg; exact hg)), swp_good hb (goodK_t hg), ih (i + 1) n _ _ hL (by omega) (by omega) (by omega)]
   ·rw [if_neg hb, swp_end _ _ _ _ _ hb, ih (i + 1) n _ _ hL (by omega) (by omega) (by omega)]
theorem lasting_l1 {k : Nat} {G : List Int} {m : Nat} (hk : 2097152 ≤ k) (h : isT G = true) (hm : (m : Int) = cnt G) (hm2 : m ≤ 100000) : ∀ (n : Nat) (L : List Bool) (ch : Bool), L.length = m →
  spec_l02Lasting.l1 k n G m L ch = fixO (goodK G) n L ch
 | 0, L, ch, hL => rfl
 | n + 1, L, ch, hL => by
  simp only [spec_l02Lasting.l1, spec_l02Lasting.s1, fixO]
  cases ch with
  | false => simp
  | true =>
   simp only [if_true]
   have := lasting_l2 (r1 := spec_l02Lasting.l1 k n) hk h hm m 0 k L false hL (by omega) (by omega) (by omega)
   rw [show spec_l02Lasting.l2 k (spec_l02Lasting.l1 k n) k G m L false 0 = _ from this, lasting_l1 hk h hm hm2 n _ _ (by rw [swp_len]; exact hL), hL]
theorem fill_set (m i : Nat) (h : i < m) : (List.replicate i true ++ List.replicate (m - i) false).set i true = List.replicate (i + 1) true ++ List.replicate (m - (i + 1)) false := by
 rw [List.set_append_right _ _ (by simp), show m - i = (m - (i + 1)) + 1 by omega, List.replicate_succ, List.replicate_succ']
 simp
theorem lasting_l0 {k : Nat} {G : List Int} {m : Nat} (hk : 2097152 ≤ k) (h : isT G = true) (hm : (m : Int) = cnt G) (hm2 : m ≤ 100000) : ∀ (d i n : Nat), m - i = d → i ≤ m → d < n →
  spec_l02Lasting.l0 k n G m (List.replicate i true ++ List.replicate (m - i) false) m i = fixO (goodK G) k (List.replicate m true) true := by
 intro d
 induction d with
 | zero =>
  intro i n hd hi hn
  obtain rfl : i = m := by omega
  cases n with
  | zero => omega
  | succ n =>
   simp only [spec_l02Lasting.l0, spec_l02Lasting.s0]
   rw [if_neg (by omega), Nat.sub_self, List.replicate_zero, List.append_nil, lasting_l1 hk h hm hm2 k _ _ (by simp)]
 | succ d ih =>
  intro i n hd hi hn
  cases n with
  | zero => omega
  | succ n =>
   simp only [spec_l02Lasting.l0, spec_l02Lasting.s0]
   rw [if_pos (by omega), if_pos (by omega), if_pos (by simp; omega), Int.toNat_natCast, fill_set m i (by omega), w64n (by omega)]
   exact ih (i + 1) n (by omega) (by omega) (by omega)
theorem l02Lasting_f {k : Nat} {G : List Int} (hk : 2097152 ≤ k) (h : isT G = true) (hc : cnt G ≤ 4000) : spec_l02Lasting.f k G = some (lasting G) := by
 have hp := cnt_pos (isT_gp h)
 unfold spec_l02Lasting.f spec_l02Lasting.g
 rw [l02Count_f hk h, Option.bind_some, if_pos (by omega), if_pos (by omega), if_pos (by omega)]
 obtain ⟨h1, h2⟩ := lasting_fix h hc (k := k) (by omega)
 have := lasting_l0 (m := (cnt G).toNat) hk h (by omega) (by omega) (cnt G).toNat 0 k (by omega) (by omega) (by omega)
 rw [h1, show (((cnt G).toNat : Nat) : Int) = cnt G by omega] at this
 rw [List.length_replicate, show (((cnt G).toNat : Nat) : Int) = cnt G by omega]
 exact this
def upF : Int → Nat → List Int
 | _, 0 => []
 | a, n + 1 => a :: upF (a + 1) n
theorem upF_len : ∀ (n : Nat) (a : Int), (upF a n).length = n
 | 0, _ => rfl
 | n + 1, a => by simp [upF, upF_len n]
theorem drop_consB {L : List Bool} {i : Nat} (h : i < L.length) : L.drop i = L.getD i false :: L.drop (i + 1) := by
 rw [List.getD_eq_getElem?_getD, List.getElem?_eq_getElem h, Option.getD_some]; exact List.drop_eq_getElem_cons h
def few (G : List Int) : Int := if isT G then (if 4000 < cnt G then 3 else 0) else 1
theorem few_zero {G : List Int} (h : few G = 0) : isT G = true ∧ cnt G ≤ 4000 := by
 unfold few at h
 cases hb : isT G with
 | false => rw [hb] at h; simp at h
 | true =>
  rw [hb] at h
  by_cases hc : 4000 < cnt G
  ·simp [hc] at h
  ·exact ⟨rfl, by omega⟩
def countR (G : List Int) : Int × Int := if few G = 0 then ((trues (lasting G) : Nat), 0) else (0, few G)
theorem lasting_len {G : List Int} (h : isT G = true) (hc : cnt G ≤ 4000) : ((lasting G).length : Int) = cnt G := (lasting_fix (k := 4003) h hc (Nat.le_refl _)).2
def stB : List Int → List Int → Bool
 | [], [] => true
 | g :: G, s :: S => decide (1 ≤ s ∧ s ≤ g) && stB G S
 | _, _ => false
theorem stB_iff : ∀ {G S : List Int}, stB G S = true ↔ Stt G S
 | [], [] => by simp [stB, Stt]
 | g :: G, s :: S => by simp [stB, Stt, stB_iff (G := G) (S := S)]
 | [], s :: S => by simp [stB, Stt]
 | g :: G, [] => by simp [stB, Stt]
theorem stB_drop {G S : List Int} {i : Nat} (h1 : i < G.length) (h2 : i < S.length) : stB (G.drop i) (S.drop i) = (decide (1 ≤ rd S i ∧ rd S i ≤ rd G i) && stB (G.drop (i + 1)) (S.drop (i + 1))) := by
 rw [drop_cons h1, drop_cons h2]; rfl
theorem stB_end {G S : List Int} {i : Nat} (h1 : i ≤ G.length) (h2 : i ≤ S.length) (h : i = G.length ∨ i = S.length) : stB (G.drop i) (S.drop i) = decide ((S.length : Int) = (G.length : Int)) := by
 rcases h with h | h
 ·subst h
  rw [List.drop_length]
  by_cases e : S.length = G.length
  ·rw [List.drop_eq_nil_of_le (by omega)]; simp [stB, e]
  ·cases hs : S.drop G.length with
   | nil => have := List.drop_eq_nil_iff.1 hs; omega
   | cons => simp [stB]; omega
 ·subst h
  rw [List.drop_length]
  by_cases e : S.length = G.length
  ·rw [List.drop_eq_nil_of_le (by omega)]; simp [stB, e]
  ·cases hs : G.drop S.length with
   | nil => have := List.drop_eq_nil_iff.1 hs; omega
   | cons => simp [stB]; omega
theorem isState_loop {k : Nat} {G S : List Int} (hl : S.length ≤ 1048576) (hs : S.length = G.length) : ∀ (d i n : Nat), S.length - i = d → i ≤ S.length → d < n →
  impl_Tasks_isState.l0 k n G S S.length i = some (stB (G.drop i) (S.drop i)) := by
 intro d
 induction d with
 | zero =>
  intro i n hd hi hn
  cases n with
  | zero => omega
  | succ n =>
   simp only [impl_Tasks_isState.l0, impl_Tasks_isState.s0]
   rw [if_neg (by omega), stB_end (by omega) hi (by omega)]
   simp [hs]
 | succ d ih =>
  intro i n hd hi hn
  cases n with
  | zero => omega
  | succ n =>
   simp only [impl_Tasks_isState.l0, impl_Tasks_isState.s0]
   rw [if_pos (by omega), if_pos (by omega), if_pos (by omega), if_pos (by omega), if_pos (by omega), within_f, Option.bind_some, w64n (by omega), stB_drop (by omega) (by omega)]
   by_cases hb : 1 ≤ rd S i ∧ rd S i ≤ rd G i
   ·rw [if_pos (by simpa using hb), ih (i + 1) n (by omega) (by omega) (by omega)]; simp [hb]
   ·rw [if_neg (by simpa using hb)]; simp only [hb, decide_false, Bool.false_and]
theorem isState_f {k : Nat} {G S : List Int} (hk : 2097152 ≤ k) (hl : S.length ≤ 1048576) : impl_Tasks_isState.f k G S = some (stB G S) := by
 unfold impl_Tasks_isState.f impl_Tasks_isState.g
 rw [length_f, Option.bind_some, many_f, Option.bind_some]
 by_cases e : S.length = G.length
 ·rw [if_pos (by omega)]
  exact isState_loop hl e S.length 0 k (by omega) (by omega) (by omega)
 ·rw [if_neg (by omega)]
  have := stB_end (G := G) (S := S) (i := 0) (by omega) (by omega)
  cases hb : stB G S with
  | false => rfl
  | true => exact absurd ((stB_iff.1 hb).length) e
def given (G S : List Int) : Int := if isT G then (if stB G S then (if 4000 < cnt G then 3 else 0) else 2) else 1
theorem given_zero {G S : List Int} (h : given G S = 0) : isT G = true ∧ Stt G S ∧ cnt G ≤ 4000 := by
 unfold given at h
 cases hb : isT G with
 | false => rw [hb] at h; simp at h
 | true =>
  rw [hb] at h
  cases hs : stB G S with
  | false => rw [hs] at h; simp at h
  | true =>
   rw [hs] at h
   by_cases hc : 4000 < cnt G
   ·simp [hc] at h
   ·exact ⟨rfl, stB_iff.1 hs, by omega⟩
def isLastR (G S : List Int) : Bool × Int := if given G S = 0 then ((lasting G).getD (num G S).toNat false, 0) else (false, given G S)
theorem impl_IsLasting_f {k : Nat} {G S : List Int} (hk : 2097152 ≤ k) (hl : G.length ≤ 1048576) (hs : S.length ≤ 1048576) : impl_IsLasting.f k G S = some (isLastR G S) := by
 unfold impl_IsLasting.f isLastR
 rw [isState_f hk hs, Option.bind_some, statesCode_f hk hl, Option.bind_some]
 by_cases hf : given G S = 0
 ·obtain ⟨h, hst, hc⟩ := given_zero hf
  have hL := lasting_len h hc
  obtain ⟨b1, b2⟩ := num_bnd (isT_gp h) hst
  rw [if_pos hf]
  refine (if_pos hf).trans ?_
  rw [graphOf_f hk h hc, Option.bind_some, number_f hk h hst, Option.bind_some, if_pos b1, if_pos (by show num G S < ((lasting G).length : Int); omega)]
  rfl
 ·rw [if_neg hf]
  exact if_neg hf
theorem stt_self : ∀ {G : List Int}, Gp G → Stt G G
 | [], _ => trivial
 | g :: G, h => ⟨⟨h.head.1, Int.le_refl _⟩, stt_self h.tail⟩
theorem numA_self : ∀ {G : List Int} (a : Int), Gp G → numA a G G = (a + 1) * cnt G - 1
 | [], a, _ => by simp [numA, cnt]
 | g :: G, a, h => by
  show numA (a * g + g - 1) G G = (a + 1) * (g * cnt G) - 1
  rw [numA_self _ h.tail, show a * g + g - 1 + 1 = (a + 1) * g by rw [Int.add_mul]; omega, Int.mul_assoc]
theorem num_self {G : List Int} (h : Gp G) : num G G = cnt G - 1 := by
 unfold num; rw [numA_self 0 h]; omega
def canR (G : List Int) : Bool × Int := if few G = 0 then ((lasting G).getD (cnt G - 1).toNat false, 0) else (false, few G)
theorem given_self (G : List Int) : given G G = few G := by
 unfold given few
 cases hb : isT G with
 | false => rfl
 | true => rw [stB_iff.2 (stt_self (isT_gp hb))]; rfl
theorem canR_self (G : List Int) : isLastR G G = canR G := by
 unfold isLastR canR
 rw [given_self]
 by_cases hf : few G = 0
 ·rw [if_pos hf, if_pos hf, num_self (isT_gp (few_zero hf).1)]
 ·rw [if_neg hf, if_neg hf]
theorem l02Can_f {k : Nat} {G : List Int} (hk : 2097152 ≤ k) (h : isT G = true) (hc : cnt G ≤ 4000) : spec_l02Can.f k G = some ((lasting G).getD (cnt G - 1).toNat false) := by
 unfold spec_l02Can.f
 have hL := lasting_len h hc
 have hp := cnt_pos (isT_gp h)
 rw [l02Lasting_f hk h hc, Option.bind_some, l02Count_f hk h, Option.bind_some, w64 (by omega) (by omega), if_pos (by omega), if_pos (by omega)]
 rfl
theorem impl_CanServe_f {k : Nat} {G : List Int} (hk : 2097152 ≤ k) (hl : G.length ≤ 1048576) : impl_CanServe.f k G = some (canR G) := by
 unfold impl_CanServe.f
 rw [impl_IsLasting_f hk hl hl, Option.bind_some, canR_self]
def keepR (G S : List Int) : List Int × Int := if given G S = 0 then (if (lasting G).getD (num G S).toNat false = true then (keep G (lasting G) (num G S), 0) else ([], 5)) else ([], given G S)
theorem keep_len (G : List Int) (L : List Bool) (v : Int) : (keep G L v).length ≤ G.length + 1 := by
 unfold keep
 refine Nat.le_trans (List.length_filter_le _ _) ?_
 simp [chs]
theorem keepR_len {G S : List Int} : (keepR G S).1.length ≤ 1048576 := by
 unfold keepR
 by_cases hf : given G S = 0
 ·rw [if_pos hf]
  have h1 := isT_len (given_zero hf).1
  have := keep_len G (lasting G) (num G S)
  split
  ·show (keep G (lasting G) (num G S)).length ≤ _; omega
  ·simp
 ·rw [if_neg hf]; simp
theorem fs_app : ∀ {A B : List Int}, cnt (A ++ B) = cnt A * cnt B
 | [], B => by simp [cnt]
 | a :: A, B => by
  have := fs_app (A := A) (B := B)
  show a * cnt (A ++ B) = a * cnt A * cnt B
  rw [this, Int.mul_assoc]
theorem fs_gp {l G : List Int} {c : Int} (hG : Gp G) {i : Nat} (hi : i ≤ G.length) : Gp (subL l G c i) := fun x hx => hG x (subL_mem hi hx)
theorem fs_rd {G : List Int} {i : Nat} (hi : i < G.length) : V.rd G (i : Int) = G[i] := by
 rw [rd_lt hi]
theorem fs_cnt {l G : List Int} {c : Int} (hG : Gp G) : ∀ (i : Nat), i ≤ G.length → cnt (subL l G c i) ≤ cnt (G.take i)
 | 0, _ => by simp [subL, cnt]
 | i + 1, hi => by
  have h1 := fs_cnt hG (l := l) (c := c) i (by omega)
  have h2 := hG _ (List.getElem_mem (show i < G.length by omega))
  have h3 := cnt_pos (fs_gp (l := l) (c := c) hG (show i ≤ G.length by omega))
  have h4 : Gp (G.take i) := fun x hx => hG x (List.mem_of_mem_take hx)
  have h5 := cnt_pos h4
  rw [List.take_succ_eq_append_getElem (by omega)]
  simp only [subL]
  rw [fs_app, fs_app]
  have e : cnt [G[i]] = G[i] := by simp [cnt]
  rw [e]
  split
  ·rw [fs_rd (show i < G.length by omega), e]
   exact Int.mul_le_mul h1 (Int.le_refl _) (by omega) (by omega)
  ·simp only [cnt, Int.mul_one]
   refine Int.le_trans h1 ?_
   have := Int.mul_le_mul_of_nonneg_left h2.1 (show (0 : Int) ≤ cnt (G.take i) by omega)
   simpa using this
theorem fs_own {l G : List Int} {c : Int} (h : isT G = true) (hc : cnt G ≤ 4000) (hl : l.length + 1 ≤ G.length) : isT (ownG (l ++ [c]) G c) = true ∧ cnt (ownG (l ++ [c]) G c) ≤ 4000 := by
 obtain ⟨h1, h2⟩ := isT_iff.1 h
 have e : (l ++ [c]).length = l.length + 1 := by simp
 have hg := isT_gp h
 have sm := own_sm (c := c) hl (by omega) (fun x hx => by have := h2 x hx; omega)
 have hlen := subL_len (l ++ [c]) G c (l.length + 1)
 unfold ownG at sm ⊢
 rw [e] at sm ⊢
 have hpos : 1 ≤ (subL (l ++ [c]) G c (l.length + 1)).length := by
  rcases Nat.eq_zero_or_pos (subL (l ++ [c]) G c (l.length + 1)).length with h0 | h0
  ·exact absurd (List.eq_nil_of_length_eq_zero h0) sm.1
  ·exact h0
 refine ⟨isT_iff.2 ⟨by omega, fs_gp hg hl⟩, ?_⟩
 have h3 := fs_cnt (l := l ++ [c]) (c := c) hg (l.length + 1) hl
 have h4 : cnt G = cnt (G.take (l.length + 1)) * cnt (G.drop (l.length + 1)) := by rw [← fs_app, List.take_append_drop]
 have h5 := cnt_pos (G := G.take (l.length + 1)) (fun x hx => hg x (List.mem_of_mem_take hx))
 have h6 := cnt_pos (G := G.drop (l.length + 1)) (fun x hx => hg x (List.mem_of_mem_drop hx))
 have h7 : cnt (G.take (l.length + 1)) ≤ cnt G := by
  rw [h4]
  have := Int.mul_le_mul_of_nonneg_left h6 (show (0 : Int) ≤ cnt (G.take (l.length + 1)) by omega)
  simpa using this
 omega
def canF (x : List Int) : Bool := (lasting x).getD (cnt x - 1).toNat false
theorem canO_f {k : Nat} {x : List Int} (hk : 2097152 ≤ k) (h : isT x = true) (hc : cnt x ≤ 4000) : canO k x = some (canF x) := by
 have hl := isT_len h
 unfold canO
 rw [impl_CanServe_f hk (by omega)]
 unfold canR canF
 have hf : few x = 0 := by
  unfold few
  rw [if_pos h, if_neg (by omega)]
 rw [if_pos hf]; rfl
theorem alone_f {k : Nat} {l G : List Int} {c : Int} (hk : 2097152 ≤ k) (h : isT G = true) (hc : cnt G ≤ 4000) (hl : l.length + 1 ≤ G.length) : spec_l08Alone.f k G (l ++ [c]) c = some (canF (ownG (l ++ [c]) G c)) := by
 obtain ⟨o1, o2⟩ := fs_own (c := c) h hc hl
 have hG := isT_len h
 have e : (l ++ [c]).length = l.length + 1 := by simp
 have key : ∀ (d i n : Nat), i + d = l.length + 1 → d < n → spec_l08Alone.l0 k n (l ++ [c]) c G (subL (l ++ [c]) G c i) i = some (canF (ownG (l ++ [c]) G c)) := by
  intro d
  induction d with
  | zero =>
   intro i n hi hn
   obtain rfl : i = l.length + 1 := by omega
   cases n with
   | zero => omega
   | succ n =>
    simp only [spec_l08Alone.l0, spec_l08Alone.s0]
    rw [if_neg (by omega)]
    have : subL (l ++ [c]) G c (l.length + 1) = ownG (l ++ [c]) G c := by unfold ownG; rw [e]
    rw [this, l02Can_f hk o1 o2]; rfl
  | succ d ih =>
   intro i n hi hn
   cases n with
   | zero => omega
   | succ n =>
    have next := ih (i + 1) n (by omega) (by omega)
    have hlen := subL_len (l ++ [c]) G c i
    simp only [spec_l08Alone.l0, spec_l08Alone.s0]
    rw [if_pos (by omega), if_pos (by omega), if_pos (by omega), w64n (by omega)]
    simp only [subL] at next
    by_cases q : V.rd (l ++ [c]) (i : Int) = c
    ·rw [if_pos q] at next ⊢
     rw [if_pos (by omega), if_pos (by omega), if_pos (by omega)]
     exact next
    ·rw [if_neg q, List.append_nil] at next
     rw [if_neg q]
     exact next
 unfold spec_l08Alone.f spec_l08Alone.g
 exact key (l.length + 1) 0 k (by omega) (by omega)
theorem split_f {k m : Nat} {G : List Int} (hk : 2097152 ≤ k) (h : isT G = true) (hc : cnt G ≤ 4000) (hm : m ≤ 1000) : ∀ (f : Nat) (l : List Int), l.length ≤ G.length → G.length - l.length < f →
  ∃ b l2, splO k G m f l = some (b, l2) ∧ spec_l08Split.r k f G (m : Int) l = some (if b = true then l2 else [], b) ∧ (b = true → l2.length = G.length) := by
 have hG := isT_len h
 intro f
 induction f with
 | zero => intro l _ h0; omega
 | succ f ih =>
  intro l hl hf
  simp only [splO, spec_l08Split.r]
  unfold spec_l08Split.b spec_l08Split.g
  by_cases q : l.length = G.length
  ·rw [if_pos q, if_pos (by omega)]
   exact ⟨true, l, rfl, rfl, fun _ => q⟩
  ·rw [if_neg q, if_neg (by omega)]
   have key : ∀ (d i n : Nat), i + d = m → d < n → ∃ b l2, splL (splO k G m f) (fun x c => canO k (ownG x G c)) l d i = some (b, l2) ∧ spec_l08Split.l0 k (spec_l08Split.r k f) n (m : Int) l G (i : Int) = some (if b = true then l2 else [], b) ∧ (b = true → l2.length = G.length) := by
    intro d
    induction d with
    | zero =>
     intro i n hi hn
     cases n with
     | zero => omega
     | succ n =>
      refine ⟨false, l, rfl, ?_, fun e => by cases e⟩
      simp only [spec_l08Split.l0, spec_l08Split.s0]
      rw [if_neg (by omega)]; rfl
    | succ d ihd =>
     intro i n hi hn
     cases n with
     | zero => omega
     | succ n =>
      obtain ⟨b2, l3, n1, n2, n3⟩ := ihd (i + 1) n (by omega) (by omega)
      obtain ⟨o1, o2⟩ := fs_own (c := (i : Int)) h hc (show l.length + 1 ≤ G.length by omega)
      have hown : spec_l01Own.f l = some l := by
       unfold spec_l01Own.f
       rw [if_pos (by omega), List.nil_append]
      simp only [splL, spec_l08Split.l0, spec_l08Split.s0]
      rw [if_pos (by omega), hown, Option.bind_some, if_pos (by omega), alone_f hk h hc (by omega), canO_f hk o1 o2, Option.bind_some, Option.bind_some, w64n (by omega)]
      cases canF (ownG (l ++ [(i : Int)]) G (i : Int)) with
      | false =>
       rw [if_neg (by decide), if_neg (by decide)]
       exact ⟨b2, l3, n1, n2, n3⟩
      | true =>
       obtain ⟨b, l2, r1, r2, r3⟩ := ih (l ++ [(i : Int)]) (by simp; omega) (by simp; omega)
       rw [if_pos rfl, if_pos rfl, r1, r2, Option.bind_some, Option.bind_some]
       cases b with
       | true => exact ⟨true, l2, rfl, rfl, r3⟩
       | false => exact ⟨b2, l3, n1, n2, n3⟩
   obtain ⟨b, l2, r1, r2, r3⟩ := key m 0 k (by omega) (by omega)
   exact ⟨b, l2, r1, r2, r3⟩
theorem fsplit_f {k : Nat} {G : List Int} {m : Int} (hk : 2097152 ≤ k) (hl : G.length ≤ 1048576) : ∃ r, impl_FirstSplit.f k G m = some r ∧ spec_FirstSplit.f k G m = some r ∧ r.1.length ≤ 8 := by
 unfold impl_FirstSplit.f spec_FirstSplit.f impl_isChannels.f spec_l08Code.f
 rw [if_pos hk, within_f, l01Is_f hk hl, l01In_f, l02Few_f hk hl]
 simp only [Option.bind_some]
 rw [statesCode_f hk hl, Option.bind_some]
 cases h : isT G with
 | false => exact ⟨([], 1), rfl, rfl, by simp⟩
 | true =>
  have hG := isT_len h
  by_cases hm : 1 ≤ m ∧ m ≤ 4
  ·by_cases hc : 4000 < cnt G
   ·exact ⟨([], 3), by simp [hm, hc], by simp [hm, hc], by simp⟩
   ·obtain ⟨mm, rfl⟩ := Int.eq_ofNat_of_zero_le (show 0 ≤ m by omega)
    obtain ⟨b, l2, r1, r2, r3⟩ := split_f (m := mm) hk h (by omega) (by omega) k [] (by simp) (by simp; omega)
    have hG9 : ∀ x ∈ G, 0 ≤ x ∧ x < 100 := fun x hx => by have := (isT_iff.1 h).2 x hx; omega
    have r2 : spec_l08Split.f k G (mm : Int) [] = some (if b = true then l2 else [], b) := r2
    refine ⟨if b = true then (l2, 0) else ([], 4), ?_, ?_, ?_⟩
    ·simp only [hm, hc, decide_true, if_true, if_false, and_self]
     rw [if_pos ⟨by omega, by omega, by omega, hG9⟩, Int.toNat_natCast, r1]
     cases b <;> rfl
    ·simp only [hm, hc, decide_true, Bool.not_true, if_true, if_false, and_self, Bool.false_eq_true]
     rw [r2]
     cases b <;> rfl
    ·cases b with
     | true => show l2.length ≤ 8; rw [r3 rfl]; omega
     | false => show ([] : List Int).length ≤ 8; simp
  ·exact ⟨([], 2), by simp [hm], by simp [hm], by simp⟩
theorem ofInt_nat (a : Nat) : BitVec.ofInt 64 (a : Int) = BitVec.ofNat 64 a := by
 apply BitVec.eq_of_toNat_eq
 simp
theorem andV_nat {a b : Nat} (ha : a < 9223372036854775808) (hb : b < 9223372036854775808) : andV .i64 (a : Int) (b : Int) = ((a &&& b : Nat) : Int) := by
 have h : a &&& b ≤ a := Nat.and_le_left
 rw [andV_eq]
 show wrap64 (((BitVec.ofInt 64 (a : Int) &&& BitVec.ofInt 64 (b : Int)).toNat : Nat) : Int) = _
 rw [ofInt_nat, ofInt_nat, BitVec.toNat_and, BitVec.toNat_ofNat, BitVec.toNat_ofNat, Nat.mod_eq_of_lt (by omega), Nat.mod_eq_of_lt (by omega), w64 (by omega) (by omega)]
theorem orV_nat {a b : Nat} (ha : a < 256) (hb : b < 256) : orV .i64 (a : Int) (b : Int) = ((a ||| b : Nat) : Int) := by
 have h : a ||| b < 2 ^ 8 := Nat.or_lt_two_pow (by omega) (by omega)
 rw [orV_eq]
 show wrap64 (((BitVec.ofInt 64 (a : Int) ||| BitVec.ofInt 64 (b : Int)).toNat : Nat) : Int) = _
 rw [ofInt_nat, ofInt_nat, BitVec.toNat_or, BitVec.toNat_ofNat, BitVec.toNat_ofNat, Nat.mod_eq_of_lt (by omega), Nat.mod_eq_of_lt (by omega), w64 (by omega) (by omega)]
theorem pow_le8 {i : Nat} (h : i ≤ 8) : 1 ≤ 2 ^ i ∧ 2 ^ i ≤ 256 := ⟨Nat.one_le_two_pow, Nat.pow_le_pow_right (by omega) h⟩
theorem shlV_nat {i : Nat} (h : i ≤ 8) : shlV .i64 1 (i : Int) = ((2 ^ i : Nat) : Int) := by
 have := pow_le8 h
 rw [shlV_eq]
 show wrap64 (1 * 2 ^ min (i : Int).toNat 64) = _
 rw [Int.toNat_natCast, show min i 64 = i by omega, Int.one_mul, show ((2 : Int) ^ i) = ((2 ^ i : Nat) : Int) by simp, w64 (by omega) (by omega)]
theorem shrV_nat {x i : Nat} (h : i ≤ 8) : shrV .i64 (x : Int) (i : Int) = ((x >>> i : Nat) : Int) := by
 rw [shrV_eq]
 show Int.fdiv (x : Int) (2 ^ min (i : Int).toNat 64) = _
 rw [Int.toNat_natCast, show min i 64 = i by omega, show ((2 : Int) ^ i) = ((2 ^ i : Nat) : Int) by simp, Int.fdiv_eq_ediv_of_nonneg _ (Int.natCast_nonneg _), Nat.shiftRight_eq_div_pow]
 simp
theorem bit_nat {x i : Nat} (hx : x < 256) (h : i ≤ 8) : (andV .i64 (shrV .i64 (x : Int) (i : Int)) 1 = 1) ↔ x.testBit i = true := by
 have hs : x >>> i ≤ x := by rw [Nat.shiftRight_eq_div_pow]; exact Nat.div_le_self _ _
 rw [shrV_nat h]
 have := andV_nat (a := x >>> i) (b := 1) (by omega) (by omega)
 rw [show ((1 : Nat) : Int) = 1 from rfl] at this
 have e : x >>> i &&& 1 = (x >>> i) % 2 := Nat.and_one_is_mod _
 rw [this, e]
 unfold Nat.testBit
 rw [Nat.and_comm, e]
 generalize x >>> i = y
 have hy : y % 2 = 0 ∨ y % 2 = 1 := by omega
 rcases hy with hy | hy <;> rw [hy] <;> simp
theorem u64_nat {x : Nat} (h : x < 256) : IntKind.wrap .u64 (x : Int) = (x : Int) := by
 show (x : Int) % 18446744073709551616 = x
 omega
def popc (x : Nat) : Nat := ((List.range 8).filter fun i => x.testBit i).length
theorem popc_step : ∀ x : Nat, x < 256 → 0 < x → popc (x &&& (x - 1)) + 1 = popc x ∧ x &&& (x - 1) < x := by decide +kernel
theorem size8_loop {k : Nat} : ∀ (x n : Nat) (c : Int), x < 256 → x < n → 0 ≤ c → c ≤ 1000 - x → spec_l08Size.l0 k n (x : Int) c = some (c + popc x)
 | x, 0, c, _, h, _, _ => by omega
 | x, n + 1, c, hx, hn, h0, h1 => by
  simp only [spec_l08Size.l0, spec_l08Size.s0]
  by_cases h : x = 0
  ·subst h
   rw [if_neg (by omega)]
   have : popc 0 = 0 := by decide
   simp [this]
  ·obtain ⟨p1, p2⟩ := popc_step x hx (by omega)
   have e : ((x : Int) - 1) = ((x - 1 : Nat) : Int) := by omega
   rw [if_pos (by omega), w64 (x := (x : Int) - 1) (by omega) (by omega), e, andV_nat (by omega) (by omega), w64 (by omega) (by omega)]
   have := size8_loop (k := k) (x &&& (x - 1)) n (c + 1) (by omega) (by omega) (by omega) (by omega)
   rw [this]
   congr 1
   omega
theorem size8_f {k x : Nat} (hk : 2097152 ≤ k) (hx : x < 256) : spec_l08Size.f k (x : Int) = some (popc x : Int) := by
 unfold spec_l08Size.f spec_l08Size.g
 have := size8_loop (k := k) x k 0 hx (by omega) (by omega) (by omega)
 rw [this]; simp
theorem ones_f {x : Nat} (h : x < 256) : bits_OnesCount64.f (x : Int) = some (popc x : Int) := by
 unfold bits_OnesCount64.f
 simp only [andV_eq, shrV_eq]
 revert x
 decide +kernel
theorem members_f {x : Nat} (h : x < 256) : impl_members.f (x : Int) = some (popc x : Int) := by
 unfold impl_members.f
 rw [u64_nat h, ones_f h]; rfl
def stepSA (x : Nat) : Nat → List Int → List Int → Option (List Int)
 | j, g :: G, s :: S => if x.testBit j = true then (stepSA x (j + 1) G S).map (g :: ·) else if s < 2 then none else (stepSA x (j + 1) G S).map ((s - 1) :: ·)
 | _, _, _ => some []
def stepS (G S : List Int) (x : Nat) : Option (List Int) := stepSA x 0 G S
theorem stepSA_st {x : Nat} : ∀ {j : Nat} {G S T : List Int}, Gp G → Stt G S → stepSA x j G S = some T → Stt G T
 | j, [], [], T, _, _, h => by simp [stepSA] at h; subst h; trivial
 | j, g :: G, s :: S, T, hG, hs, h => by
  simp only [stepSA] at h
  split at h
  ·obtain ⟨T', h1, rfl⟩ := Option.map_eq_some_iff.1 h
   exact ⟨⟨(hG.head).1, Int.le_refl _⟩, stepSA_st hG.tail hs.2 h1⟩
  ·split at h
   ·cases h
   ·obtain ⟨T', h1, rfl⟩ := Option.map_eq_some_iff.1 h
    have := hs.1
    exact ⟨by omega, stepSA_st hG.tail hs.2 h1⟩
 | j, [], _ :: _, _, _, h, _ => h.elim
 | j, _ :: _, [], _, _, h, _ => h.elim
theorem stepS_st {G S T : List Int} {x : Nat} (hG : Gp G) (hs : Stt G S) (h : stepS G S x = some T) : Stt G T := stepSA_st hG hs h
theorem l08Step_loop {k : Nat} {G S : List Int} {x : Nat} (hx : x < 256) (hG : Gp G) (hl : G.length ≤ 8) (hs : Stt G S) : ∀ (d i n : Nat) (out : List Int), G.length - i = d → i ≤ G.length → d < n → out.length = i →
  spec_l08Step.l0 k n S (x : Int) G out i = some (stepR out (stepSA x i (G.drop i) (S.drop i))) := by
 have hsl := hs.length
 intro d
 induction d with
 | zero =>
  intro i n out hd hi hn ho
  obtain rfl : i = G.length := by omega
  cases n with
  | zero => omega
  | succ n =>
   simp only [spec_l08Step.l0, spec_l08Step.s0]
   rw [if_neg (by omega), List.drop_length]
   simp [stepSA, stepR]
 | succ d ih =>
  intro i n out hd hi hn ho
  cases n with
  | zero => omega
  | succ n =>
   simp only [spec_l08Step.l0, spec_l08Step.s0]
   have hg := hG _ (rd_mem (l := G) (i := i) (by omega))
   obtain ⟨e1, e2⟩ := stt_at (i := i) hs (by omega)
   rw [drop_cons (l := G) (by omega), drop_cons (l := S) (by omega), if_pos (by omega), u64_nat (by omega), if_neg (by omega)]
   simp only [stepSA]
   by_cases hc : x.testBit i = true
   ·rw [if_pos (by simpa using (bit_nat hx (by omega)).2 hc), if_pos hc, if_pos (by omega), if_pos (by omega), if_pos (by omega), w64n (by omega), ih (i + 1) n _ (by omega) (by omega) (by omega) (by simp [ho]), stepR_map]
   ·rw [if_neg (by simpa using fun q => hc ((bit_nat hx (by omega)).1 q)), if_neg hc, if_pos (by omega), if_pos (by omega)]
    by_cases h2 : rd S i < 2
    ·rw [if_pos (by simp; omega), if_pos h2]; rfl
    ·rw [if_neg (by simp; omega), if_neg h2, if_pos (by omega), if_pos (by omega), if_pos (by omega), w64 (x := rd S i - 1) (by omega) (by omega), w64n (by omega), ih (i + 1) n _ (by omega) (by omega) (by omega) (by simp [ho]), stepR_map]
theorem l08Step_f {k : Nat} {G S : List Int} {x : Nat} (hk : 2097152 ≤ k) (hx : x < 256) (h : isT G = true) (hs : Stt G S) : spec_l08Step.f k G S (x : Int) = some (stepR [] (stepS G S x)) := by
 unfold spec_l08Step.f spec_l08Step.g
 have := isT_len h
 exact l08Step_loop (k := k) hx (isT_gp h) (isT_len h).2 hs G.length 0 k [] (by omega) (by omega) (by omega) rfl
theorem setStep_loop {k : Nat} {G S : List Int} {x : Nat} (hx : x < 256) (hG : Gp G) (hl : G.length ≤ 8) (hs : Stt G S) : ∀ (d i n : Nat) (out : List Int), G.length - i = d → i ≤ G.length → d < n → out.length = i →
  impl_Tasks_setStep.l0 k n (x : Int) G (out ++ S.drop i) S.length i = some (stepR out (stepSA x i (G.drop i) (S.drop i))) := by
 have hsl := hs.length
 intro d
 induction d with
 | zero =>
  intro i n out hd hi hn ho
  obtain rfl : i = G.length := by omega
  cases n with
  | zero => omega
  | succ n =>
   simp only [impl_Tasks_setStep.l0, impl_Tasks_setStep.s0]
   rw [if_neg (by omega), List.drop_length, List.drop_eq_nil_of_le (by omega)]
   simp [stepSA, stepR]
 | succ d ih =>
  intro i n out hd hi hn ho
  cases n with
  | zero => omega
  | succ n =>
   have hg := hG _ (rd_mem (l := G) (i := i) (by omega))
   obtain ⟨e1, e2⟩ := stt_at (i := i) hs (by omega)
   have hlen : (out ++ S.drop i).length = S.length := by simp; omega
   simp only [impl_Tasks_setStep.l0, impl_Tasks_setStep.s0]
   rw [hlen, rd_app out S i ho (by omega), Int.toNat_natCast, set_app out S i _ ho (by omega), set_app out S i _ ho (by omega)]
   conv => rhs; rw [drop_cons (l := G) (i := i) (by omega), drop_cons (l := S) (i := i) (by omega)]
   rw [if_pos (by omega), if_neg (by omega)]
   simp only [stepSA]
   by_cases hc : x.testBit i = true
   ·rw [if_pos (by simpa using (bit_nat hx (by omega)).2 hc), if_pos hc, if_pos (by omega), if_pos (by omega), if_pos (by omega), if_pos (by omega), w64n (by omega), ih (i + 1) n _ (by omega) (by omega) (by omega) (by simp [ho]), stepR_map]
   ·rw [if_neg (by simpa using fun q => hc ((bit_nat hx (by omega)).1 q)), if_neg hc, if_pos (by omega), if_pos (by omega)]
    by_cases h2 : rd S i < 2
    ·rw [if_pos (by simpa using h2), if_pos h2]; rfl
    ·rw [if_neg (by simpa using h2), if_neg h2, if_pos (by omega), if_pos (by omega), if_pos (by omega), if_pos (by omega), w64 (x := rd S i - 1) (by omega) (by omega), w64n (by omega), ih (i + 1) n _ (by omega) (by omega) (by omega) (by simp [ho]), stepR_map]
theorem setStep_f {k : Nat} {G S : List Int} {x : Nat} (hk : 2097152 ≤ k) (hx : x < 256) (h : isT G = true) (hs : Stt G S) : impl_Tasks_setStep.f k G S (x : Int) = some (stepR [] (stepS G S x)) := by
 unfold impl_Tasks_setStep.f impl_Tasks_setStep.g
 have := isT_len h
 have hsl := hs.length
 rw [clone_f (by omega), Option.bind_some]
 exact setStep_loop (k := k) hx (isT_gp h) (isT_len h).2 hs G.length 0 k [] (by omega) (by omega) (by omega) rfl
def okS (m : Int) (x : Nat) : Bool := decide ((popc x : Int) ≤ m)
def setsF (m : Int) (j d : Nat) : List Nat := (List.range' j d).filter (okS m)
def setsN (G : List Int) (m : Int) : List Nat := setsF m 0 (2 ^ G.length)
theorem setsF_succ (m : Int) (j d : Nat) : setsF m j (d + 1) = if okS m j = true then j :: setsF m (j + 1) d else setsF m (j + 1) d := by
 unfold setsF
 rw [List.range'_succ, List.filter_cons]
theorem setsF_mem {m : Int} {j d x : Nat} (h : x ∈ setsF m j d) : j ≤ x ∧ x < j + d := by
 have := List.mem_range'_1.1 (List.mem_filter.1 h).1
 omega
theorem sets_loop {k : Nat} {G : List Int} {m : Int} (hl : G.length ≤ 8) : ∀ (d j n : Nat) (out : List Int), 2 ^ G.length - j = d → j ≤ 2 ^ G.length → d < n → out.length ≤ j → 2097152 ≤ k →
  spec_l08Sets.l0 k n m G out j = some (out ++ (setsF m j d).map fun x : Nat => (x : Int)) := by
 have hp := pow_le8 hl
 intro d
 induction d with
 | zero =>
  intro j n out hd hj hn ho hk
  cases n with
  | zero => omega
  | succ n =>
   simp only [spec_l08Sets.l0, spec_l08Sets.s0]
   rw [u64_nat (by omega), if_neg (by omega), shlV_nat hl, if_neg (by omega)]
   simp [setsF]
 | succ d ih =>
  intro j n out hd hj hn ho hk
  cases n with
  | zero => omega
  | succ n =>
   simp only [spec_l08Sets.l0, spec_l08Sets.s0]
   rw [u64_nat (by omega), if_neg (by omega), shlV_nat hl, if_pos (by omega), size8_f hk (by omega), Option.bind_some, w64n (by omega), setsF_succ]
   by_cases hc : (popc j : Int) ≤ m
   ·rw [if_pos hc, if_pos (by omega), if_pos (show okS m j = true from decide_eq_true hc), ih (j + 1) n _ (by omega) (by omega) (by omega) (by simp; omega) hk]
    simp
   ·rw [if_neg hc, if_neg (show ¬ okS m j = true from fun q => hc (of_decide_eq_true q)), ih (j + 1) n _ (by omega) (by omega) (by omega) (by omega) hk]
theorem sets_f {k : Nat} {G : List Int} {m : Int} (hk : 2097152 ≤ k) (hl : G.length ≤ 8) : spec_l08Sets.f k G m = some ((setsN G m).map fun x : Nat => (x : Int)) := by
 unfold spec_l08Sets.f spec_l08Sets.g
 have hp := pow_le8 hl
 exact sets_loop (k := k) hl (2 ^ G.length) 0 k [] (by omega) (by omega) (by omega) (by simp) hk
def opE (G S : List Int) (x : Nat) : Option (Int × Int) := (stepS G S x).map fun T => ((x : Int), num G T)
def opns (G S : List Int) (m : Int) : List (Int × Int) := (setsN G m).filterMap (opE G S)
theorem stepSA_none {x : Nat} : ∀ {j : Nat} {G S : List Int}, Stt G S → ((stepSA x j G S).isSome = true ↔ ∀ i : Nat, i < S.length → rd S i < 2 → x.testBit (j + i) = true)
 | j, [], [], _ => by simp [stepSA]
 | j, g :: G, s :: S, hs => by
  have ih := stepSA_none (x := x) (j := j + 1) hs.2
  simp only [stepSA]
  have h0 : rd (s :: S) ((0 : Nat) : Int) = s := rfl
  have hS : ∀ i : Nat, rd (s :: S) ((i + 1 : Nat) : Int) = rd S (i : Int) := fun i => by rw [rd_nat, rd_nat]; rfl
  constructor
  ·intro h i hi h2
   cases i with
   | zero =>
    rw [h0] at h2
    by_cases hb : x.testBit j = true
    ·exact hb
    ·rw [if_neg hb, if_pos h2] at h; cases h
   | succ i =>
    rw [hS] at h2
    have h3 : (stepSA x (j + 1) G S).isSome = true := by
     by_cases hb : x.testBit j = true
     ·rw [if_pos hb] at h; simpa using h
     ·rw [if_neg hb] at h
      by_cases h4 : s < 2
      ·rw [if_pos h4] at h; cases h
      ·rw [if_neg h4] at h; simpa using h
    have := ih.1 h3 i (by simpa using hi) h2
    rwa [show j + 1 + i = j + (i + 1) by omega] at this
  ·intro h
   have h3 : (stepSA x (j + 1) G S).isSome = true := ih.2 fun i hi h2 => by
    have := h (i + 1) (by simpa using hi) (by rw [hS]; exact h2)
    rwa [show j + 1 + i = j + (i + 1) by omega]
   by_cases hb : x.testBit j = true
   ·rw [if_pos hb]; simpa using h3
   ·rw [if_neg hb, if_neg (fun h4 => hb (by have := h 0 (by simp) (by rw [h0]; exact h4); simpa using this))]; simpa using h3
 | j, [], _ :: _, h => h.elim
 | j, _ :: _, [], h => h.elim
structure MustOf (S : List Int) (i m : Nat) : Prop where
 lt : m < 2 ^ S.length
 bit : ∀ j, m.testBit j = decide (j < i ∧ j < S.length ∧ rd S j < 2)
theorem must_sub {S : List Int} {m : Nat} (M : MustOf S S.length m) (x : Nat) : (x &&& m = m) ↔ ∀ i : Nat, i < S.length → rd S i < 2 → x.testBit i = true := by
 constructor
 ·intro h i hi h2
  have h3 : m.testBit i = true := by rw [M.bit]; simp [hi, h2]
  rw [← h, Nat.testBit_and, Bool.and_eq_true] at h3
  exact h3.1
 ·intro h
  apply Nat.eq_of_testBit_eq
  intro i
  rw [Nat.testBit_and]
  cases hb : m.testBit i with
  | false => simp
  | true =>
   rw [M.bit] at hb
   obtain ⟨_, h1, h2⟩ := of_decide_eq_true hb
   rw [h i h1 h2]; rfl
theorem open_iff {G S : List Int} {m x : Nat} (hs : Stt G S) (M : MustOf S S.length m) : (x &&& m = m) ↔ (stepS G S x).isSome = true := by
 rw [must_sub M x]
 unfold stepS
 rw [stepSA_none hs]
 simp
theorem openings_l1 {k : Nat} {G S : List Int} {m : Int} {mu : Nat} (hk : 2097152 ≤ k) (h : isT G = true) (hs : Stt G S) (M : MustOf S S.length mu) : ∀ (d j n : Nat) (out : List (Int × Int)), 2 ^ G.length - j = d → j ≤ 2 ^ G.length → d < n → out.length ≤ j →
  impl_Tasks_openings.l1 k n S m G (mu : Int) out j = some (out ++ (setsF m j d).filterMap (opE G S)) := by
 have hl := isT_len h
 have hsl := hs.length
 have hp := pow_le8 hl.2
 have hmu := M.lt
 rw [hsl] at hmu
 intro d
 induction d with
 | zero =>
  intro j n out hd hj hn ho
  cases n with
  | zero => omega
  | succ n =>
   simp only [impl_Tasks_openings.l1, impl_Tasks_openings.s1]
   rw [many_f, Option.bind_some, if_neg (by omega), shlV_nat hl.2, if_neg (by omega)]
   simp [setsF]
 | succ d ih =>
  intro j n out hd hj hn ho
  cases n with
  | zero => omega
  | succ n =>
   simp only [impl_Tasks_openings.l1, impl_Tasks_openings.s1]
   rw [many_f, Option.bind_some, if_neg (by omega), shlV_nat hl.2, if_pos (by omega), andV_nat (by omega) (by omega), w64n (by omega), setsF_succ]
   by_cases ha : j &&& mu = mu
   ·rw [if_pos (by omega), members_f (by omega), Option.bind_some]
    have ho' := (open_iff hs M).1 ha
    obtain ⟨T, hT⟩ := Option.isSome_iff_exists.1 ho'
    by_cases hc : (popc j : Int) ≤ m
    ·rw [if_pos hc, if_pos (show okS m j = true from decide_eq_true hc), setStep_f hk (by omega) h hs, hT, Option.bind_some]
     simp only [stepR, List.nil_append]
     rw [number_f hk h (stepS_st (isT_gp h) hs hT), Option.bind_some, if_pos (by omega), ih (j + 1) n _ (by omega) (by omega) (by omega) (by simp; omega), List.filterMap_cons]
     simp [opE, hT]
    ·rw [if_neg hc, if_neg (show ¬ okS m j = true from fun q => hc (of_decide_eq_true q)), ih (j + 1) n _ (by omega) (by omega) (by omega) (by omega)]
   ·rw [if_neg (by omega), ih (j + 1) n _ (by omega) (by omega) (by omega) (by omega)]
    have hno : stepS G S j = none := by
     cases hst : stepS G S j with
     | none => rfl
     | some T => exact absurd ((open_iff hs M).2 (by rw [hst]; rfl)) ha
    split
    ·rw [List.filterMap_cons]; simp [opE, hno]
    ·rfl
theorem openings_l0 {k : Nat} {G S : List Int} {m : Int} (hk : 2097152 ≤ k) (h : isT G = true) (hs : Stt G S) : ∀ (d i n mu : Nat), S.length - i = d → i ≤ S.length → d < n → MustOf S i mu →
  ∃ mu', MustOf S S.length mu' ∧ impl_Tasks_openings.l0 k n S m G (mu : Int) S S.length i = impl_Tasks_openings.l1 k k S m G (mu' : Int) [] (mu' : Int) := by
 have hl := isT_len h
 have hsl := hs.length
 intro d
 induction d with
 | zero =>
  intro i n mu hd hi hn M
  cases n with
  | zero => omega
  | succ n =>
   obtain rfl : i = S.length := by omega
   refine ⟨mu, M, ?_⟩
   simp only [impl_Tasks_openings.l0, impl_Tasks_openings.s0]
   rw [if_neg (by omega)]
 | succ d ih =>
  intro i n mu hd hi hn M
  cases n with
  | zero => omega
  | succ n =>
   have hmu := M.lt
   have hp := pow_le8 (show S.length ≤ 8 by omega)
   have hpi := pow_le8 (show i ≤ 8 by omega)
   have hpi2 : 2 ^ i < 2 ^ S.length := Nat.pow_lt_pow_right (by omega) (by omega)
   simp only [impl_Tasks_openings.l0, impl_Tasks_openings.s0]
   rw [if_pos (by omega), if_pos (by omega), if_pos (by omega), w64n (by omega)]
   by_cases h2 : rd S i < 2
   ·rw [if_pos h2, if_neg (by omega), shlV_nat (by omega), orV_nat (by omega) (by omega)]
    refine ih (i + 1) n (mu ||| 2 ^ i) (by omega) (by omega) (by omega) ⟨Nat.or_lt_two_pow hmu hpi2, fun j => ?_⟩
    rw [Nat.testBit_or, M.bit, Nat.testBit_two_pow]
    by_cases e : i = j
    ·subst e; simp; exact ⟨by omega, h2⟩
    ·have e2 : (decide (i = j)) = false := decide_eq_false e
     rw [e2, Bool.or_false, decide_eq_decide]
     omega
   ·rw [if_neg h2]
    refine ih (i + 1) n mu (by omega) (by omega) (by omega) ⟨hmu, fun j => ?_⟩
    rw [M.bit, decide_eq_decide]
    constructor
    ·rintro ⟨a, b, c⟩; exact ⟨by omega, b, c⟩
    ·rintro ⟨a, b, c⟩
     refine ⟨?_, b, c⟩
     by_cases e : j = i
     ·rw [e] at c; exact absurd c h2
     ·omega
theorem setsF_split (m : Int) (f : Nat → Option (Int × Int)) : ∀ (a j d : Nat), (∀ x, j ≤ x → x < j + a → f x = none) → (setsF m j (a + d)).filterMap f = (setsF m (j + a) d).filterMap f
 | 0, j, d, _ => by simp
 | a + 1, j, d, h => by
  rw [show a + 1 + d = (a + d) + 1 by omega, setsF_succ]
  have h1 := setsF_split m f a (j + 1) d fun x h1 h2 => h x (by omega) (by omega)
  rw [show j + 1 + a = j + (a + 1) by omega] at h1
  split
  ·rw [List.filterMap_cons, h j (by omega) (by omega)]; exact h1
  ·exact h1
theorem openings_f {k : Nat} {G S : List Int} {m : Int} (hk : 2097152 ≤ k) (h : isT G = true) (hs : Stt G S) : impl_Tasks_openings.f k G S m = some (opns G S m) := by
 unfold impl_Tasks_openings.f impl_Tasks_openings.g
 have hl := isT_len h
 have hsl := hs.length
 have hp := pow_le8 hl.2
 obtain ⟨mu, M, e⟩ := openings_l0 (k := k) (m := m) hk h hs S.length 0 k 0 (by omega) (by omega) (by omega) ⟨by have := pow_le8 (show S.length ≤ 8 by omega); omega, fun j => by simp⟩
 refine Eq.trans e ?_
 have hmu := M.lt
 rw [hsl] at hmu
 rw [openings_l1 hk h hs M (2 ^ G.length - mu) mu k [] rfl (by omega) (by omega) (by simp), List.nil_append]
 congr 1
 unfold opns setsN
 have := setsF_split m (opE G S) mu 0 (2 ^ G.length - mu) (fun x _ hx => by
  cases hst : stepS G S x with
  | none => simp [opE, hst]
  | some T =>
   have h1 := (open_iff (x := x) hs M).2 (by rw [hst]; rfl)
   have h2 : x &&& mu ≤ x := Nat.and_le_left
   omega)
 rw [show mu + (2 ^ G.length - mu) = 2 ^ G.length by omega, Nat.zero_add] at this
 exact this.symm
theorem swp_flag (g : List Bool → Nat → Bool) : ∀ (d i : Nat) (L : List Bool), (swp g d i L true).2 = true
 | 0, i, L => rfl
 | d + 1, i, L => by
  by_cases hb : L.getD i false = true
  ·by_cases hg : g L i = true
   ·rw [swp_good hb hg]; exact swp_flag g d (i + 1) L
   ·rw [swp_bad hb hg]; exact swp_flag g d (i + 1) _
  ·rw [swp_end _ _ _ _ _ hb]; exact swp_flag g d (i + 1) L
theorem swp_still (g : List Bool → Nat → Bool) : ∀ (d i : Nat) (L : List Bool), (swp g d i L false).2 = false → (swp g d i L false).1 = L ∧ ∀ j, i ≤ j → j < i + d → L.getD j false = true → g L j = true
 | 0, i, L, _ => ⟨rfl, fun j h1 h2 => by omega⟩
 | d + 1, i, L, h => by
  by_cases hb : L.getD i false = true
  ·by_cases hg : g L i = true
   ·rw [swp_good hb hg] at h ⊢
    obtain ⟨h1, h2⟩ := swp_still g d (i + 1) L h
    refine ⟨h1, fun j h3 h4 h5 => ?_⟩
    by_cases e : j = i
    ·rw [e]; exact hg
    ·exact h2 j (by omega) (by omega) h5
   ·rw [swp_bad hb hg, swp_flag] at h; cases h
  ·rw [swp_end _ _ _ _ _ hb] at h ⊢
   obtain ⟨h1, h2⟩ := swp_still g d (i + 1) L h
   refine ⟨h1, fun j h3 h4 h5 => ?_⟩
   by_cases e : j = i
   ·rw [e] at h5; exact absurd h5 hb
   ·exact h2 j (by omega) (by omega) h5
theorem fix_good (g : List Bool → Nat → Bool) : ∀ (n : Nat) (L L' : List Bool) (ch : Bool), fixO g n L ch = some L' → (ch = false → ∀ j, j < L.length → L.getD j false = true → g L j = true) → ∀ j, j < L'.length → L'.getD j false = true → g L' j = true
 | 0, _, _, _, h, _ => by cases h
 | n + 1, L, L', false, h, hg => by
  obtain rfl : L = L' := by simpa [fixO] using h
  exact hg rfl
 | n + 1, L, L', true, h, hg => by
  have h' : fixO g n (swp g L.length 0 L false).1 (swp g L.length 0 L false).2 = some L' := by simpa [fixO] using h
  refine fix_good g n _ L' _ h' fun hf => ?_
  obtain ⟨h1, h2⟩ := swp_still g L.length 0 L hf
  rw [h1]
  exact fun j h3 h4 => h2 j (by omega) (by omega) h4
def negs (l : List Int) : Nat := (l.filter fun x => decide (x < 0)).length
theorem negs_set : ∀ {l : List Int} {i : Nat} {x : Int}, i < l.length → l.getD i 0 < 0 → 0 ≤ x → negs (l.set i x) + 1 = negs l
 | [], i, x, h, _, _ => by simp at h
 | a :: l, 0, x, _, h, h0 => by
  have h1 : ¬ x < 0 := by omega
  have h2 : a < 0 := by simpa using h
  simp [negs, h1, h2]
 | a :: l, i + 1, x, hi, h, h0 => by
  have := negs_set (l := l) (i := i) (x := x) (by simpa using hi) (by simpa using h) h0
  unfold negs at this ⊢
  rw [List.set_cons_succ, List.filter_cons, List.filter_cons]
  by_cases e : a < 0
  ·rw [if_pos (by simpa using e), if_pos (by simpa using e), List.length_cons, List.length_cons]; omega
  ·rw [if_neg (by simpa using e), if_neg (by simpa using e)]; exact this
theorem negs_rep : ∀ (m : Nat), negs (List.replicate m (-1 : Int)) = m := by
 intro m
 induction m with
 | zero => rfl
 | succ m ih =>
  unfold negs at ih ⊢
  rw [List.replicate_succ, List.filter_cons, if_pos (by simp), List.length_cons, ih]
theorem rd_set {l : List Int} {i j : Nat} {x : Int} (h : i < l.length) : rd (l.set i x) j = if j = i then x else rd l j := by
 rw [rd_nat, rd_nat, List.getD_eq_getElem?_getD, List.getD_eq_getElem?_getD, List.getElem?_set]
 by_cases e : i = j
 ·subst e; rw [if_pos rfl, if_pos h, if_pos rfl]; rfl
 ·rw [if_neg e, if_neg (fun c => e c.symm)]
theorem own8_f {l : List Int} (hl : l.length ≤ 1048576) : spec_l01Own.f l = some l := by
 unfold spec_l01Own.f
 rw [if_pos (by omega), List.nil_append]
def leastO (L : List Bool) (os : List (Int × Int)) : Option (Int × Int) := os.find? fun o => L.getD o.2.toNat false
def leastR (o : Option (Int × Int)) : Int × Int × Bool := match o with | some o => (o.1, o.2, true) | none => (0, 0, false)
theorem opE_bnd {G S : List Int} {x : Nat} {o : Int × Int} (h : isT G = true) (hs : Stt G S) (e : opE G S x = some o) : o.1 = (x : Int) ∧ 0 ≤ o.2 ∧ o.2 < cnt G ∧ ofN G o.2 ∈ (stepS G S x) ∧ stepS G S x = some (ofN G o.2) := by
 unfold opE at e
 obtain ⟨T, hT, rfl⟩ := Option.map_eq_some_iff.1 e
 have b0 := stepS_st (isT_gp h) hs hT
 obtain ⟨b1, b2⟩ := num_bnd (isT_gp h) b0
 have b3 := ofN_num (isT_gp h) b0
 exact ⟨rfl, b1, b2, by rw [b3, hT]; rfl, by rw [b3]; exact hT⟩
theorem opns_bnd {G S : List Int} {m : Int} (h : isT G = true) (hs : Stt G S) : ∀ o ∈ opns G S m, 0 ≤ o.2 ∧ o.2 < cnt G := by
 intro o ho
 obtain ⟨x, _, he⟩ := List.mem_filterMap.1 ho
 have := opE_bnd h hs he
 exact ⟨this.2.1, this.2.2.1⟩
theorem opns_len (G S : List Int) (m : Int) : (opns G S m).length ≤ 2 ^ G.length := by
 unfold opns setsN setsF
 refine Nat.le_trans (List.length_filterMap_le _ _) (Nat.le_trans (List.length_filter_le _ _) ?_)
 simp
theorem first_loop {k : Nat} {G S : List Int} {L : List Bool} {xs : List Nat} (hk : 2097152 ≤ k) (h : isT G = true) (hs : Stt G S) (hL : (L.length : Int) = cnt G) (hx : ∀ x ∈ xs, x < 256) (hxl : xs.length ≤ 1000) : ∀ (d i n : Nat), xs.length - i = d → i ≤ xs.length → d < n →
  spec_l08First.l0 k n (xs.map fun x : Nat => (x : Int)) L S G i = some (leastR (leastO L ((xs.drop i).filterMap (opE G S)))) := by
 intro d
 induction d with
 | zero =>
  intro i n hd hi hn
  cases n with
  | zero => omega
  | succ n =>
   simp only [spec_l08First.l0, spec_l08First.s0]
   rw [if_neg (by simp; omega), List.drop_eq_nil_of_le (by omega)]
   rfl
 | succ d ih =>
  intro i n hd hi hn
  cases n with
  | zero => omega
  | succ n =>
   have hlen : (xs.map fun x : Nat => (x : Int)).length = xs.length := by simp
   have hr : rd (xs.map fun x : Nat => (x : Int)) (i : Int) = ((xs[i]'(by omega) : Nat) : Int) := by
    rw [rd_lt (by omega)]; simp
   have hxi := hx (xs[i]'(by omega)) (List.getElem_mem _)
   simp only [spec_l08First.l0, spec_l08First.s0]
   rw [hlen, hr, if_pos (by omega), if_pos (by omega), if_pos (by omega), l08Step_f hk hxi h hs, Option.bind_some, w64n (by omega), List.drop_eq_getElem_cons (show i < xs.length by omega), List.filterMap_cons]
   cases hst : stepS G S (xs[i]'(by omega)) with
   | none =>
    have : opE G S (xs[i]'(by omega)) = none := by simp [opE, hst]
    rw [this]
    simp only [stepR, Bool.false_eq_true, if_false]
    exact ih (i + 1) n (by omega) (by omega) (by omega)
   | some T =>
    have b0 := stepS_st (isT_gp h) hs hst
    obtain ⟨b1, b2⟩ := num_bnd (isT_gp h) b0
    have : opE G S (xs[i]'(by omega)) = some (((xs[i]'(by omega) : Nat) : Int), num G T) := by simp [opE, hst]
    rw [this]
    simp only [stepR, if_true, List.nil_append]
    rw [l02Number_f hk h b0, Option.bind_some, if_pos b1, if_pos (by omega)]
    unfold leastO
    simp only [List.find?_cons]
    cases hb : L.getD (num G T).toNat false with
    | true =>
     rw [if_pos (show rdOf false L (num G T) = true from hb), if_pos (by omega), if_pos (by omega)]
     rfl
    | false =>
     rw [if_neg (show ¬ rdOf false L (num G T) = true from by rw [show rdOf false L (num G T) = false from hb]; simp)]
     exact ih (i + 1) n (by omega) (by omega) (by omega)
theorem setsN_lt {G : List Int} {m : Int} (hl : G.length ≤ 8) : ∀ x ∈ setsN G m, x < 256 := by
 intro x hx
 have := setsF_mem hx
 have := pow_le8 hl
 omega
theorem setsN_len {G : List Int} {m : Int} (hl : G.length ≤ 8) : (setsN G m).length ≤ 256 := by
 unfold setsN setsF
 have := pow_le8 hl
 refine Nat.le_trans (List.length_filter_le _ _) ?_
 simp; omega
theorem first_f {k : Nat} {G S : List Int} {L : List Bool} {m : Int} (hk : 2097152 ≤ k) (h : isT G = true) (hs : Stt G S) (hL : (L.length : Int) = cnt G) :
  spec_l08First.f k G ((setsN G m).map fun x : Nat => (x : Int)) L S = some (leastR (leastO L (opns G S m))) := by
 unfold spec_l08First.f spec_l08First.g
 have hl := isT_len h
 have h1 := setsN_len (G := G) (m := m) hl.2
 exact first_loop (k := k) hk h hs hL (setsN_lt hl.2) (by omega) (setsN G m).length 0 k (by omega) (by omega) (by omega)
theorem least_loop {k : Nat} {O : List (List (Int × Int))} {L : List Bool} {os : List (Int × Int)} {a b : Int} (hb : ∀ o ∈ os, 0 ≤ o.2 ∧ o.2 < L.length) (hl : os.length ≤ 1000) : ∀ (d i n : Nat), os.length - i = d → i ≤ os.length → d < n →
  impl_setGraph_least.l0 k n (O, L) a b os os.length i = some (leastR (leastO L (os.drop i))) := by
 intro d
 induction d with
 | zero =>
  intro i n hd hi hn
  cases n with
  | zero => omega
  | succ n =>
   simp only [impl_setGraph_least.l0, impl_setGraph_least.s0]
   rw [if_neg (by omega), List.drop_eq_nil_of_le (by omega)]
   rfl
 | succ d ih =>
  intro i n hd hi hn
  cases n with
  | zero => omega
  | succ n =>
   have hi' : i < os.length := by omega
   have hr : rdOf ((0, 0) : Int × Int) os (i : Int) = os[i] := rdOf_lt hi'
   obtain ⟨b1, b2⟩ := hb os[i] (List.getElem_mem _)
   simp only [impl_setGraph_least.l0, impl_setGraph_least.s0]
   rw [hr, if_pos (by omega), if_pos (by omega), if_pos (by omega), if_pos b1, if_pos b2, w64n (by omega), List.drop_eq_getElem_cons hi']
   unfold leastO
   simp only [List.find?_cons]
   cases hy : L.getD os[i].2.toNat false with
   | true => rw [if_pos (show rdOf false L os[i].2 = true from hy)]; rfl
   | false =>
    rw [if_neg (show ¬ rdOf false L os[i].2 = true from by rw [show rdOf false L os[i].2 = false from hy]; simp)]
    exact ih (i + 1) n (by omega) (by omega) (by omega)
def opsA (G : List Int) (m : Int) (n : Nat) : List (List (Int × Int)) := (List.range n).map fun i : Nat => opns G (ofN G (i : Int)) m
theorem opsA_len (G : List Int) (m : Int) (n : Nat) : (opsA G m n).length = n := by simp [opsA]
theorem opsA_succ (G : List Int) (m : Int) (n : Nat) : opsA G m (n + 1) = opsA G m n ++ [opns G (ofN G (n : Int)) m] := by simp [opsA, List.range_succ]
theorem rdOf_opsA {G : List Int} {m : Int} {n i : Nat} (h : i < n) : rdOf ([] : List (Int × Int)) (opsA G m n) (i : Int) = opns G (ofN G (i : Int)) m := by
 rw [rdOf_lt (by rw [opsA_len]; exact h)]
 simp [opsA]
theorem least_f {k : Nat} {G : List Int} {L : List Bool} {m : Int} {i : Nat} (hk : 2097152 ≤ k) (h : isT G = true) (hL : (L.length : Int) = cnt G) (hi : i < L.length) :
  impl_setGraph_least.f k (opsA G m L.length, L) i = some (leastR (leastO L (opns G (ofN G (i : Int)) m))) := by
 unfold impl_setGraph_least.f impl_setGraph_least.g
 have hl := isT_len h
 have h1 := opns_len G (ofN G (i : Int)) m
 have hp := pow_le8 hl.2
 simp only [opsA_len, rdOf_opsA hi]
 rw [if_pos (by omega), if_pos (by omega)]
 exact least_loop (k := k) (fun o ho => by have := opns_bnd h (ofN_st _ (isT_gp h)) o ho; omega) (by omega) (opns G (ofN G (i : Int)) m).length 0 k (by omega) (by omega) (by omega)
def goodS (G : List Int) (m : Int) (L : List Bool) (i : Nat) : Bool := (leastO L (opns G (ofN G (i : Int)) m)).isSome
def lastS (G : List Int) (m : Int) : List Bool := (fixO (goodS G m) 4003 (List.replicate (cnt G).toNat true) true).getD []
theorem lastS_fix {G : List Int} {m : Int} (h : isT G = true) (hc : cnt G ≤ 4000) {k : Nat} (hk : 4003 ≤ k) : fixO (goodS G m) k (List.replicate (cnt G).toNat true) true = some (lastS G m) ∧ ((lastS G m).length : Int) = cnt G := by
 have hp := cnt_pos (isT_gp h)
 obtain ⟨L', h1, h2⟩ := fix_some (goodS G m) 4003 (List.replicate (cnt G).toNat true) true (by have := trues_le (List.replicate (cnt G).toNat true); simp at this; omega)
 have e : lastS G m = L' := by
  unfold lastS
  rw [h1]; rfl
 rw [e]
 refine ⟨fix_mono _ _ _ _ _ _ hk h1, ?_⟩
 rw [h2]; simp; omega
theorem leastR_ok (o : Option (Int × Int)) : (leastR o).2.2 = o.isSome := by cases o <;> rfl
theorem last8_l2 {k : Nat} {G : List Int} {m : Int} {M : Nat} (hk : 2097152 ≤ k) (h : isT G = true) (hm : (M : Int) = cnt G) {r1 : (List Int) → (List Int) → (List Bool) → Bool → Option ((List Bool))} :
  ∀ (d i n : Nat) (L : List Bool) (ch : Bool), L.length = M → M - i = d → i ≤ M → d < n →
   spec_l08Lasting.l2 k r1 n G ((setsN G m).map fun x : Nat => (x : Int)) L ch M i = r1 G ((setsN G m).map fun x : Nat => (x : Int)) (swp (goodS G m) d i L ch).1 (swp (goodS G m) d i L ch).2 := by
 have hc := cnt_small (isT_gp h) (isT_len h).2
 intro d
 induction d with
 | zero =>
  intro i n L ch hL hd hi hn
  cases n with
  | zero => omega
  | succ n =>
   simp only [spec_l08Lasting.l2, spec_l08Lasting.s2]
   rw [if_neg (by omega)]
   rfl
 | succ d ih =>
  intro i n L ch hL hd hi hn
  cases n with
  | zero => omega
  | succ n =>
   simp only [spec_l08Lasting.l2, spec_l08Lasting.s2]
   rw [if_pos (by omega), if_pos (by omega), if_pos (by omega), rdOf_nat, w64n (by omega), l02Of_f hk h (by omega) (by omega), Option.bind_some, first_f hk h (ofN_st _ (isT_gp h)) (by omega), Option.bind_some, leastR_ok, show (leastO L (opns G (ofN G (i : Int)) m)).isSome = goodS G m L i from rfl]
   by_cases hb : L.getD i false = true
   ·rw [if_pos hb]
    by_cases hg : goodS G m L i = true
    ·rw [if_pos hg, swp_good hb hg, ih (i + 1) n _ _ hL (by omega) (by omega) (by omega)]
    ·rw [if_neg hg, if_pos (by omega), if_pos (by omega), Int.toNat_natCast, swp_bad hb hg, ih (i + 1) n _ _ (by simpa using hL) (by omega) (by omega) (by omega)]
   ·rw [if_neg hb, swp_end _ _ _ _ _ hb, ih (i + 1) n _ _ hL (by omega) (by omega) (by omega)]
theorem last8_l1 {k : Nat} {G : List Int} {m : Int} {M : Nat} (hk : 2097152 ≤ k) (h : isT G = true) (hm : (M : Int) = cnt G) (hm2 : M ≤ 100000) : ∀ (n : Nat) (L : List Bool) (ch : Bool), L.length = M →
  spec_l08Lasting.l1 k n G ((setsN G m).map fun x : Nat => (x : Int)) L ch = fixO (goodS G m) n L ch
 | 0, L, ch, hL => rfl
 | n + 1, L, ch, hL => by
  simp only [spec_l08Lasting.l1, spec_l08Lasting.s1, fixO]
  cases ch with
  | false => simp
  | true =>
   simp only [if_true]
   have := last8_l2 (m := m) (r1 := spec_l08Lasting.l1 k n) hk h hm M 0 k L false hL (by omega) (by omega) (by omega)
   rw [show (L.length : Int) = (M : Int) by omega]
   refine Eq.trans this ?_
   rw [last8_l1 hk h hm hm2 n _ _ (by rw [swp_len]; exact hL), hL]
theorem last8_l0 {k : Nat} {G : List Int} {m : Int} {M : Nat} (hk : 2097152 ≤ k) (h : isT G = true) (hm : (M : Int) = cnt G) (hm2 : M ≤ 100000) : ∀ (d i n : Nat), M - i = d → i ≤ M → d < n →
  spec_l08Lasting.l0 k n G ((setsN G m).map fun x : Nat => (x : Int)) (List.replicate i true ++ List.replicate (M - i) false) M i = fixO (goodS G m) k (List.replicate M true) true := by
 intro d
 induction d with
 | zero =>
  intro i n hd hi hn
  obtain rfl : i = M := by omega
  cases n with
  | zero => omega
  | succ n =>
   simp only [spec_l08Lasting.l0, spec_l08Lasting.s0]
   rw [if_neg (by omega), Nat.sub_self, List.replicate_zero, List.append_nil, last8_l1 hk h hm hm2 k _ _ (by simp)]
 | succ d ih =>
  intro i n hd hi hn
  cases n with
  | zero => omega
  | succ n =>
   simp only [spec_l08Lasting.l0, spec_l08Lasting.s0]
   rw [if_pos (by omega), if_pos (by omega), if_pos (by simp; omega), Int.toNat_natCast, fill_set M i (by omega), w64n (by omega)]
   exact ih (i + 1) n (by omega) (by omega) (by omega)
theorem l08Lasting_f {k : Nat} {G : List Int} {m : Int} (hk : 2097152 ≤ k) (h : isT G = true) (hc : cnt G ≤ 4000) : spec_l08Lasting.f k G m = some (lastS G m) := by
 have hp := cnt_pos (isT_gp h)
 unfold spec_l08Lasting.f spec_l08Lasting.g
 rw [sets_f hk (isT_len h).2, Option.bind_some, l02Count_f hk h, Option.bind_some, if_pos (by omega), if_pos (by omega), if_pos (by omega)]
 obtain ⟨h1, h2⟩ := lastS_fix (m := m) h hc (k := k) (by omega)
 have := last8_l0 (m := m) (M := (cnt G).toNat) hk h (by omega) (by omega) (cnt G).toNat 0 k (by omega) (by omega) (by omega)
 rw [h1, show (((cnt G).toNat : Nat) : Int) = cnt G by omega] at this
 rw [List.length_replicate, show (((cnt G).toNat : Nat) : Int) = cnt G by omega]
 exact this
theorem sg_l2 {k : Nat} {G : List Int} {m : Int} {M : Nat} (hk : 2097152 ≤ k) (h : isT G = true) (hm : (M : Int) = cnt G) {r1 : (List (List (Int × Int))) → (List Bool) → Bool → Option (((List (List (Int × Int))) × (List Bool)))} :
  ∀ (d i n : Nat) (L : List Bool) (ch : Bool), L.length = M → M - i = d → i ≤ M → d < n →
   impl_setGraphOf.l2 k r1 n (opsA G m M) L ch M i = r1 (opsA G m M) (swp (goodS G m) d i L ch).1 (swp (goodS G m) d i L ch).2 := by
 have hc := cnt_small (isT_gp h) (isT_len h).2
 intro d
 induction d with
 | zero =>
  intro i n L ch hL hd hi hn
  cases n with
  | zero => omega
  | succ n =>
   simp only [impl_setGraphOf.l2, impl_setGraphOf.s2]
   rw [if_neg (by omega)]
   rfl
 | succ d ih =>
  intro i n L ch hL hd hi hn
  cases n with
  | zero => omega
  | succ n =>
   have hle := least_f (L := L) (m := m) (i := i) hk h (by omega) (by omega)
   rw [hL] at hle
   simp only [impl_setGraphOf.l2, impl_setGraphOf.s2]
   rw [if_pos (by omega), if_pos (by omega), if_pos (by omega), hle, Option.bind_some, rdOf_nat, w64n (by omega), leastR_ok, show (leastO L (opns G (ofN G (i : Int)) m)).isSome = goodS G m L i from rfl]
   by_cases hb : L.getD i false = true
   ·rw [if_pos hb]
    by_cases hg : goodS G m L i = true
    ·rw [if_pos hg, swp_good hb hg, ih (i + 1) n _ _ hL (by omega) (by omega) (by omega)]
    ·rw [if_neg hg, if_pos (by omega), if_pos (by omega), Int.toNat_natCast, swp_bad hb hg, ih (i + 1) n _ _ (by simpa using hL) (by omega) (by omega) (by omega)]
   ·rw [if_neg hb, swp_end _ _ _ _ _ hb, ih (i + 1) n _ _ hL (by omega) (by omega) (by omega)]
theorem sg_l1 {k : Nat} {G : List Int} {m : Int} {M : Nat} (hk : 2097152 ≤ k) (h : isT G = true) (hm : (M : Int) = cnt G) (hm2 : M ≤ 100000) : ∀ (n : Nat) (L : List Bool) (ch : Bool), L.length = M →
  impl_setGraphOf.l1 k n (opsA G m M) L ch = (fixO (goodS G m) n L ch).map fun L => (opsA G m M, L)
 | 0, L, ch, hL => rfl
 | n + 1, L, ch, hL => by
  simp only [impl_setGraphOf.l1, impl_setGraphOf.s1, fixO]
  cases ch with
  | false => simp
  | true =>
   simp only [if_true]
   have := sg_l2 (m := m) (r1 := impl_setGraphOf.l1 k n) hk h hm M 0 k L false hL (by omega) (by omega) (by omega)
   rw [show (L.length : Int) = (M : Int) by omega]
   refine Eq.trans this ?_
   rw [sg_l1 hk h hm hm2 n _ _ (by rw [swp_len]; exact hL), hL]
theorem sg_l0 {k : Nat} {G : List Int} {m : Int} {M : Nat} (hk : 2097152 ≤ k) (h : isT G = true) (hm : (M : Int) = cnt G) (hm2 : M ≤ 100000) : ∀ (d i n : Nat), M - i = d → i ≤ M → d < n →
  impl_setGraphOf.l0 k n m G (opsA G m i) (List.replicate i true) M i = (fixO (goodS G m) k (List.replicate M true) true).map fun L => (opsA G m M, L) := by
 intro d
 induction d with
 | zero =>
  intro i n hd hi hn
  obtain rfl : i = M := by omega
  cases n with
  | zero => omega
  | succ n =>
   simp only [impl_setGraphOf.l0, impl_setGraphOf.s0]
   rw [if_neg (by omega), sg_l1 hk h hm hm2 k _ _ (by simp)]
 | succ d ih =>
  intro i n hd hi hn
  cases n with
  | zero => omega
  | succ n =>
   simp only [impl_setGraphOf.l0, impl_setGraphOf.s0]
   rw [if_pos (by omega), numbered_f hk h (by omega) (by omega), Option.bind_some, openings_f hk h (ofN_st _ (isT_gp h)), Option.bind_some, if_pos (by rw [opsA_len]; omega), if_pos (by simp; omega), w64n (by omega), ← opsA_succ, ← List.replicate_succ']
   exact ih (i + 1) n (by omega) (by omega) (by omega)
theorem setGraphOf_f {k : Nat} {G : List Int} {m : Int} (hk : 2097152 ≤ k) (h : isT G = true) (hc : cnt G ≤ 4000) : impl_setGraphOf.f k G m = some (opsA G m (lastS G m).length, lastS G m) := by
 have hp := cnt_pos (isT_gp h)
 unfold impl_setGraphOf.f impl_setGraphOf.g
 rw [states_f hk h, Option.bind_some]
 obtain ⟨h1, h2⟩ := lastS_fix (m := m) h hc (k := k) (by omega)
 have := sg_l0 (m := m) (M := (cnt G).toNat) hk h (by omega) (by omega) (cnt G).toNat 0 k (by omega) (by omega) (by omega)
 rw [h1, show (((cnt G).toNat : Nat) : Int) = cnt G by omega] at this
 refine Eq.trans this ?_
 rw [Option.map_some, show (cnt G).toNat = (lastS G m).length by omega]
def code8 (G : List Int) (m : Int) : Int := if isT G = true then (if 1 ≤ m ∧ m ≤ 4 then (if 4000 < cnt G then 3 else 0) else 2) else 1
theorem code8_zero {G : List Int} {m : Int} (h : code8 G m = 0) : isT G = true ∧ (1 ≤ m ∧ m ≤ 4) ∧ cnt G ≤ 4000 := by
 unfold code8 at h
 by_cases h1 : isT G = true
 ·rw [if_pos h1] at h
  by_cases h2 : 1 ≤ m ∧ m ≤ 4
  ·rw [if_pos h2] at h
   by_cases h3 : 4000 < cnt G
   ·rw [if_pos h3] at h; cases h
   ·exact ⟨h1, h2, by omega⟩
  ·rw [if_neg h2] at h; cases h
 ·rw [if_neg h1] at h; cases h
theorem l08Code_f {k : Nat} {G : List Int} {m : Int} (hk : 2097152 ≤ k) (hl : G.length ≤ 1048576) : spec_l08Code.f k G m = some (code8 G m) := by
 unfold spec_l08Code.f code8
 rw [l01Is_f hk hl, Option.bind_some, l01In_f, Option.bind_some, l02Few_f hk hl, Option.bind_some]
 cases isT G with
 | false => rfl
 | true =>
  by_cases h : 1 ≤ m ∧ m ≤ 4
  ·simp [h]
  ·simp [h]
theorem code8_impl {k : Nat} {G : List Int} {m : Int} (hk : 2097152 ≤ k) (hl : G.length ≤ 1048576) : ((impl_isChannels.f m).bind fun t1 => impl_statesCode.f k G t1) = some (code8 G m) := by
 unfold impl_isChannels.f code8
 rw [within_f, Option.bind_some, Option.bind_some, statesCode_f hk hl]
 cases isT G with
 | false => rfl
 | true =>
  by_cases h : 1 ≤ m ∧ m ≤ 4
  ·simp [h]
  ·simp [h]
def canS (G : List Int) (m : Int) : Bool := (lastS G m).getD (cnt G - 1).toNat false
theorem lastS_len {G : List Int} {m : Int} (h : isT G = true) (hc : cnt G ≤ 4000) : ((lastS G m).length : Int) = cnt G := (lastS_fix (m := m) (k := 4003) h hc (Nat.le_refl _)).2
theorem sgCan_f {G : List Int} {m : Int} {O : List (List (Int × Int))} (h : isT G = true) (hc : cnt G ≤ 4000) : impl_setGraph_canServe.f (O, lastS G m) = some (canS G m) := by
 have hL := lastS_len (m := m) h hc
 have hp := cnt_pos (isT_gp h)
 unfold impl_setGraph_canServe.f canS
 simp only
 rw [hL, w64 (by omega) (by omega), if_pos (by omega), if_pos (by omega)]
 rfl
def canOnR (G : List Int) (m : Int) : Bool × Int := if code8 G m = 0 then (canS G m, 0) else (false, code8 G m)
theorem spec_CanServeOn_f {k : Nat} {G : List Int} {m : Int} (hk : 2097152 ≤ k) (hl : G.length ≤ 1048576) : spec_CanServeOn.f k G m = some (canOnR G m) := by
 unfold spec_CanServeOn.f canOnR
 rw [l08Code_f hk hl, Option.bind_some]
 by_cases hf : code8 G m = 0
 ·obtain ⟨h, _, hc⟩ := code8_zero hf
  have hL := lastS_len (m := m) h hc
  have hp := cnt_pos (isT_gp h)
  rw [if_pos hf, if_pos hf, l08Lasting_f hk h hc, Option.bind_some, l02Count_f hk h, Option.bind_some, w64 (by omega) (by omega), if_pos (by omega), if_pos (by omega)]
  rfl
 ·rw [if_neg hf, if_neg hf]
theorem impl_CanServeOn_f {k : Nat} {G : List Int} {m : Int} (hk : 2097152 ≤ k) (hl : G.length ≤ 1048576) : impl_CanServeOn.f k G m = some (canOnR G m) := by
 have hcode := code8_impl (m := m) hk hl
 unfold impl_CanServeOn.f canOnR
 have : ((impl_isChannels.f m).bind fun t1 => (impl_statesCode.f k G t1).bind fun t2 => if t2 = 0 then ((impl_setGraphOf.f k G m).bind fun t3 => (impl_setGraph_canServe.f t3).bind fun t4 => some (t4, (0 : Int))) else (some (false, t2))) = (((impl_isChannels.f m).bind fun t1 => impl_statesCode.f k G t1).bind fun t2 => if t2 = 0 then ((impl_setGraphOf.f k G m).bind fun t3 => (impl_setGraph_canServe.f t3).bind fun t4 => some (t4, (0 : Int))) else (some (false, t2))) := by
  rw [Option.bind_assoc]
 rw [this, hcode, Option.bind_some]
 by_cases hf : code8 G m = 0
 ·obtain ⟨h, _, hc⟩ := code8_zero hf
  rw [if_pos hf, if_pos hf, setGraphOf_f hk h hc, Option.bind_some, sgCan_f h hc, Option.bind_some]
 ·rw [if_neg hf, if_neg hf]
def chans (G : List Int) : Nat → Int → Int × Int
 | 0, _ => (0, 4)
 | d + 1, x => if canS G x = true then (x, 0) else chans G d (x + 1)
theorem spec_chans {k : Nat} {G : List Int} (hk : 2097152 ≤ k) (h : isT G = true) (hc : cnt G ≤ 4000) : ∀ (d n : Nat) (x : Int), x + d = 5 → 0 ≤ x → d < n → spec_FewestChannels.l0 k n G x = some (chans G d x) := by
 have hp := cnt_pos (isT_gp h)
 intro d
 induction d with
 | zero =>
  intro n x hd h0 hn
  cases n with
  | zero => omega
  | succ n =>
   simp only [spec_FewestChannels.l0, spec_FewestChannels.s0]
   rw [if_neg (by omega)]; rfl
 | succ d ih =>
  intro n x hd h0 hn
  cases n with
  | zero => omega
  | succ n =>
   have hL := lastS_len (m := x) h hc
   simp only [spec_FewestChannels.l0, spec_FewestChannels.s0]
   rw [if_pos (by omega), l08Lasting_f hk h hc, Option.bind_some, l02Count_f hk h, Option.bind_some, w64 (x := cnt G - 1) (by omega) (by omega), if_pos (by omega), if_pos (by omega), w64 (by omega) (by omega)]
   simp only [chans]
   by_cases hb : canS G x = true
   ·rw [if_pos hb]; exact if_pos hb
   ·rw [if_neg hb]
    refine (if_neg hb).trans ?_
    exact ih n (x + 1) (by omega) (by omega) (by omega)
theorem impl_chans {k : Nat} {G : List Int} (hk : 2097152 ≤ k) (h : isT G = true) (hc : cnt G ≤ 4000) : ∀ (d n : Nat) (x : Int), x + d = 5 → 0 ≤ x → d < n → impl_FewestChannels.l0 k n G x = some (chans G d x) := by
 intro d
 induction d with
 | zero =>
  intro n x hd h0 hn
  cases n with
  | zero => omega
  | succ n =>
   simp only [impl_FewestChannels.l0, impl_FewestChannels.s0]
   rw [if_neg (by omega)]; rfl
 | succ d ih =>
  intro n x hd h0 hn
  cases n with
  | zero => omega
  | succ n =>
   simp only [impl_FewestChannels.l0, impl_FewestChannels.s0]
   rw [if_pos (by omega), setGraphOf_f hk h hc, Option.bind_some, sgCan_f h hc, Option.bind_some, w64 (by omega) (by omega)]
   simp only [chans]
   by_cases hb : canS G x = true
   ·rw [if_pos hb, if_pos hb]
   ·rw [if_neg hb, if_neg hb]
    exact ih n (x + 1) (by omega) (by omega) (by omega)
def fewestR (G : List Int) : Int × Int := if code8 G 1 = 0 then chans G 4 1 else (0, code8 G 1)
theorem spec_FewestChannels_f {k : Nat} {G : List Int} (hk : 2097152 ≤ k) (hl : G.length ≤ 1048576) : spec_FewestChannels.f k G = some (fewestR G) := by
 unfold spec_FewestChannels.f spec_FewestChannels.g fewestR
 rw [l08Code_f hk hl, Option.bind_some]
 by_cases hf : code8 G 1 = 0
 ·obtain ⟨h, _, hc⟩ := code8_zero hf
  rw [if_pos hf, if_pos hf]
  exact spec_chans hk h hc 4 k 1 (by omega) (by omega) (by omega)
 ·rw [if_neg hf, if_neg hf]
theorem impl_FewestChannels_f {k : Nat} {G : List Int} (hk : 2097152 ≤ k) (hl : G.length ≤ 1048576) : impl_FewestChannels.f k G = some (fewestR G) := by
 unfold impl_FewestChannels.f impl_FewestChannels.g fewestR
 have e : impl_statesCode.f k G true = some (code8 G 1) := by
  rw [statesCode_f hk hl]; unfold code8; cases isT G <;> simp
 rw [e, Option.bind_some]
 by_cases hf : code8 G 1 = 0
 ·obtain ⟨h, _, hc⟩ := code8_zero hf
  rw [if_pos hf, if_pos hf]
  exact impl_chans hk h hc 4 k 1 (by omega) (by omega) (by omega)
 ·rw [if_neg hf, if_neg hf]
theorem lastS_good {G : List Int} {m : Int} (h : isT G = true) (hc : cnt G ≤ 4000) {v : Int} (h0 : 0 ≤ v) (h1 : v < cnt G) (hv : (lastS G m).getD v.toNat false = true) :
  ∃ o, leastO (lastS G m) (opns G (ofN G v) m) = some o ∧ 0 ≤ o.2 ∧ o.2 < cnt G ∧ (lastS G m).getD o.2.toNat false = true := by
 obtain ⟨h2, h3⟩ := lastS_fix (m := m) (k := 4003) h hc (Nat.le_refl _)
 have := fix_good (goodS G m) _ _ _ _ h2 (fun e => by cases e) v.toNat (by omega) hv
 unfold goodS at this
 rw [show ((v.toNat : Nat) : Int) = v by omega] at this
 obtain ⟨o, ho⟩ := Option.isSome_iff_exists.1 this
 have hm := opns_bnd h (ofN_st v (isT_gp h)) o (List.mem_of_find?_eq_some ho)
 exact ⟨o, ho, hm.1, hm.2, by have := List.find?_some (p := fun o : Int × Int => (lastS G m).getD o.2.toNat false) (l := opns G (ofN G v) m) (a := o) ho; exact this⟩
def nextO (G : List Int) (m v : Int) : Int × Int := (leastO (lastS G m) (opns G (ofN G v) m)).getD (0, 0)
def playS (G : List Int) (m : Int) : Nat → Int → List Int → List Int → Option (List Int × List Int)
 | 0, _, _, _ => none
 | n + 1, v, came, out => if 0 ≤ rd came v then some (out.take (rd came v).toNat, out.drop (rd came v).toNat) else playS G m n (nextO G m v).2 (came.set v.toNat out.length) (out ++ [(nextO G m v).1])
structure PlayS (G : List Int) (m v : Int) (came out : List Int) : Prop where
 v0 : 0 ≤ v
 v1 : v < cnt G
 lv : (lastS G m).getD v.toNat false = true
 cl : (came.length : Int) = cnt G
 ol : (out.length : Int) + negs came = cnt G
 cb : ∀ i : Nat, i < came.length → rd came i ≤ out.length
theorem PlayS.next {G came out : List Int} {m v : Int} (h : isT G = true) (hc : cnt G ≤ 4000) (I : PlayS G m v came out) (hn : ¬ 0 ≤ rd came v) :
  PlayS G m (nextO G m v).2 (came.set v.toNat out.length) (out ++ [(nextO G m v).1]) := by
 obtain ⟨o, hr, h3, h4, h5⟩ := lastS_good h hc I.v0 I.v1 I.lv
 have e : nextO G m v = o := by unfold nextO; rw [hr]; rfl
 have hv0 := I.v0; have hv1 := I.v1; have hcl := I.cl; have hol := I.ol
 have hlen : v.toNat < came.length := by omega
 have hneg := negs_set (l := came) (i := v.toNat) (x := (out.length : Int)) hlen (by
  have : rd came v = came.getD v.toNat 0 := rfl
  omega) (by omega)
 rw [e]
 refine ⟨h3, h4, h5, by simpa using hcl, by simp; omega, fun i hi => ?_⟩
 have hi' : i < came.length := by simpa using hi
 rw [rd_set hlen]
 split
 ·simp; omega
 ·have := I.cb i hi'
  simp; omega
theorem playS_some {G : List Int} {m : Int} (h : isT G = true) (hc : cnt G ≤ 4000) : ∀ (n : Nat) (v : Int) (came out : List Int), PlayS G m v came out → negs came < n → ∃ r, playS G m n v came out = some r ∧ r.1.length ≤ 4000 ∧ r.2.length ≤ 4000
 | 0, v, came, out, I, hn => by omega
 | n + 1, v, came, out, I, hn => by
  unfold playS
  have hol := I.ol
  by_cases hb : 0 ≤ rd came v
  ·rw [if_pos hb]
   exact ⟨_, rfl, by simp; omega, by simp; omega⟩
  ·rw [if_neg hb]
   have hv0 := I.v0; have hv1 := I.v1; have hcl := I.cl
   have hneg := negs_set (l := came) (i := v.toNat) (x := (out.length : Int)) (by omega) (by
    have : rd came v = came.getD v.toNat 0 := rfl
    omega) (by omega)
   exact playS_some h hc n _ _ _ (I.next h hc hb) (by omega)
theorem playS_mono (G : List Int) (m : Int) : ∀ (n n' : Nat) (v : Int) (came out : List Int) (r : List Int × List Int), n ≤ n' → playS G m n v came out = some r → playS G m n' v came out = some r
 | 0, _, _, _, _, _, _, h => by cases h
 | n + 1, 0, _, _, _, _, h, _ => by omega
 | n + 1, n' + 1, v, came, out, r, h, e => by
  unfold playS at e ⊢
  by_cases hb : 0 ≤ rd came v
  ·rw [if_pos hb] at e ⊢; exact e
  ·rw [if_neg hb] at e ⊢
   exact playS_mono G m n n' _ _ _ r (by omega) e
theorem spec_playS {k : Nat} {G : List Int} {m : Int} (hk : 2097152 ≤ k) (h : isT G = true) (hc : cnt G ≤ 4000) : ∀ (n : Nat) (S : List Int) (v : Int) (came out : List Int), PlayS G m v came out → ofN G v = S →
  spec_LeastPlayOn.l1 k n G (lastS G m) ((setsN G m).map fun x : Nat => (x : Int)) came S out = (playS G m n v came out).map fun r => (r.1, r.2, 0)
 | 0, S, v, came, out, I, e => rfl
 | n + 1, S, v, came, out, I, e => by
  have hst := ofN_st v (isT_gp h)
  have hv0 := I.v0; have hv1 := I.v1; have hcl := I.cl; have hol := I.ol
  have hcb := I.cb v.toNat (by omega)
  rw [show ((v.toNat : Nat) : Int) = v by omega] at hcb
  have hnum : num G S = v := by rw [← e]; exact num_ofN (isT_gp h) hv0 hv1
  rw [e] at hst
  unfold playS
  simp only [spec_LeastPlayOn.l1, spec_LeastPlayOn.s1]
  rw [l02Number_f hk h hst, Option.bind_some, hnum, if_pos hv0, if_pos (by omega)]
  by_cases hb : 0 ≤ rd came v
  ·rw [if_pos hb, if_pos hb, if_pos hb, if_pos hcb, own8_f (by simp; omega), Option.bind_some, if_pos hb, if_pos hcb, if_pos (by omega), own8_f (by simp; omega), Option.bind_some, Int.toNat_natCast, List.take_length]
   rfl
  ·obtain ⟨o, hr, h3, h4, h5⟩ := lastS_good h hc hv0 hv1 I.lv
   have en : nextO G m v = o := by unfold nextO; rw [hr]; rfl
   rw [if_neg hb, if_neg hb, if_pos hv0, if_pos (by omega), first_f hk h hst (lastS_len h hc), Option.bind_some, ← e, hr, if_pos (by omega)]
   simp only [leastR]
   rw [l02Of_f hk h h3 (by omega), Option.bind_some]
   have := spec_playS hk h hc n (ofN G o.2) o.2 _ _ (by have := I.next h hc hb; rw [en] at this; exact this) rfl
   rw [en]
   exact this
theorem impl_playS {k : Nat} {G : List Int} {m : Int} (hk : 2097152 ≤ k) (h : isT G = true) (hc : cnt G ≤ 4000) : ∀ (n : Nat) (v : Int) (seen : List (Int × Int)) (came out : List Int), PlayS G m v came out → (∀ i : Nat, i < came.length → mgI seen i = if 0 ≤ rd came i then some (rd came i) else none) →
  impl_LeastPlayOn.l0 k n (opsA G m (lastS G m).length, lastS G m) seen out v = (playS G m n v came out).map fun r => (r.1, r.2, 0)
 | 0, v, seen, came, out, I, e => rfl
 | n + 1, v, seen, came, out, I, e => by
  have hL := lastS_len (m := m) h hc
  have hv0 := I.v0; have hv1 := I.v1; have hcl := I.cl; have hol := I.ol
  have hcb := I.cb v.toNat (by omega)
  have ev := e v.toNat (by omega)
  rw [show ((v.toNat : Nat) : Int) = v by omega] at hcb ev
  unfold playS
  simp only [impl_LeastPlayOn.l0, impl_LeastPlayOn.s0]
  rw [ev]
  by_cases hb : 0 ≤ rd came v
  ·simp only [if_pos hb, Option.isSome_some, if_true, Option.getD_some]
   rw [if_pos hcb, clone_f (by simp; omega), Option.bind_some, if_pos hcb, if_pos (by omega), clone_f (by simp; omega), Option.bind_some, Int.toNat_natCast, List.take_length]
   rfl
  ·simp only [if_neg hb, Option.isSome_none, Bool.false_eq_true, if_false]
   obtain ⟨o, hr, h3, h4, h5⟩ := lastS_good h hc hv0 hv1 I.lv
   have en : nextO G m v = o := by unfold nextO; rw [hr]; rfl
   have hle := least_f (L := lastS G m) (m := m) (i := v.toNat) hk h hL (by omega)
   rw [show ((v.toNat : Nat) : Int) = v by omega, hr] at hle
   rw [hle, Option.bind_some, if_pos (by omega)]
   have := impl_playS hk h hc n o.2 (mpI seen v out.length) _ _ (by have := I.next h hc hb; rw [en] at this; exact this) (fun i hi => by
    have hi' : i < came.length := by simpa using hi
    rw [mgI_mpI, rd_set (by omega)]
    by_cases ei : i = v.toNat
    ·rw [if_pos (by omega), if_pos ei, if_pos (by omega)]
    ·rw [if_neg (by omega), if_neg ei]; exact e i hi')
   rw [en]
   exact this
theorem spec_fillS {k : Nat} {G S sets : List Int} {L : List Bool} {M : Nat} (hm : M ≤ 4000) {r1 : (List Int) → (List Bool) → (List Int) → (List Int) → (List Int) → (List Int) → Option ((List Int) × (List Int) × Int)} (hr : r1 = spec_LeastPlayOn.l1 k k) : ∀ (d i n : Nat), M - i = d → i ≤ M → d < n →
  spec_LeastPlayOn.l0 k n G L sets (List.replicate i (-1) ++ List.replicate (M - i) 0) S [] M i = r1 G L sets (List.replicate M (-1)) S [] := by
 subst hr
 intro d
 induction d with
 | zero =>
  intro i n hd hi hn
  obtain rfl : i = M := by omega
  cases n with
  | zero => omega
  | succ n =>
   simp only [spec_LeastPlayOn.l0, spec_LeastPlayOn.s0]
   rw [if_neg (by omega), Nat.sub_self, List.replicate_zero, List.append_nil]
 | succ d ih =>
  intro i n hd hi hn
  cases n with
  | zero => omega
  | succ n =>
   simp only [spec_LeastPlayOn.l0, spec_LeastPlayOn.s0]
   have : (List.replicate i (-1 : Int) ++ List.replicate (M - i) 0).set i (-1) = List.replicate (i + 1) (-1) ++ List.replicate (M - (i + 1)) 0 := by
    rw [List.set_append_right _ _ (by simp), show M - i = (M - (i + 1)) + 1 by omega, List.replicate_succ, List.replicate_succ']
    simp
   rw [if_pos (by omega), if_pos (by omega), if_pos (by simp; omega), Int.toNat_natCast, this, w64n (by omega)]
   exact ih (i + 1) n (by omega) (by omega) (by omega)
def playOnR (G : List Int) (m : Int) : List Int × List Int × Int := if code8 G m = 0 then (if canS G m = true then (match playS G m 4001 (cnt G - 1) (List.replicate (cnt G).toNat (-1)) [] with | some r => (r.1, r.2, 0) | none => ([], [], 0)) else ([], [], 4)) else ([], [], code8 G m)
theorem playS_start {G : List Int} {m : Int} (h : isT G = true) (hc : cnt G ≤ 4000) (hs : canS G m = true) : PlayS G m (cnt G - 1) (List.replicate (cnt G).toNat (-1)) [] := by
 have hp := cnt_pos (isT_gp h)
 refine ⟨by omega, by omega, hs, by simp; omega, by rw [negs_rep]; simp; omega, fun i hi => ?_⟩
 rw [rd_lt hi]
 simp
theorem playOnR_eq {G : List Int} {m : Int} (hf : code8 G m = 0) (hs : canS G m = true) : ∃ r, playS G m 4001 (cnt G - 1) (List.replicate (cnt G).toNat (-1)) [] = some r ∧ playOnR G m = (r.1, r.2, 0) ∧ r.1.length ≤ 4000 ∧ r.2.length ≤ 4000 := by
 obtain ⟨h, _, hc⟩ := code8_zero hf
 obtain ⟨r, h1, h2, h3⟩ := playS_some h hc 4001 _ _ _ (playS_start h hc hs) (by rw [negs_rep]; omega)
 refine ⟨r, h1, ?_, h2, h3⟩
 unfold playOnR
 rw [if_pos hf, if_pos hs, h1]
theorem playOnR_len (G : List Int) (m : Int) : (playOnR G m).1.length ≤ 4000 ∧ (playOnR G m).2.1.length ≤ 4000 := by
 by_cases hf : code8 G m = 0
 ·by_cases hs : canS G m = true
  ·obtain ⟨r, _, h1, h2, h3⟩ := playOnR_eq hf hs
   rw [h1]; exact ⟨h2, h3⟩
  ·unfold playOnR; rw [if_pos hf, if_neg hs]; simp
 ·unfold playOnR; rw [if_neg hf]; simp
theorem stt8_self : ∀ {G : List Int}, Gp G → Stt G G
 | [], _ => trivial
 | g :: G, h => ⟨⟨h.head.1, Int.le_refl _⟩, stt8_self h.tail⟩
theorem numA8_self : ∀ {G : List Int} (a : Int), Gp G → numA a G G = (a + 1) * cnt G - 1
 | [], a, _ => by simp [numA, cnt]
 | g :: G, a, h => by
  show numA (a * g + g - 1) G G = (a + 1) * (g * cnt G) - 1
  rw [numA8_self _ h.tail, show a * g + g - 1 + 1 = (a + 1) * g by rw [Int.add_mul]; omega, Int.mul_assoc]
theorem ofN8_full {G : List Int} (h : isT G = true) : ofN G (cnt G - 1) = G := by
 have e : num G G = cnt G - 1 := by unfold num; rw [numA8_self 0 (isT_gp h)]; omega
 rw [← e]; exact ofN_num (isT_gp h) (stt8_self (isT_gp h))
theorem spec_LeastPlayOn_f {k : Nat} {G : List Int} {m : Int} (hk : 2097152 ≤ k) (hl : G.length ≤ 1048576) : spec_LeastPlayOn.f k G m = some (playOnR G m) := by
 unfold spec_LeastPlayOn.f spec_LeastPlayOn.g
 rw [l08Code_f hk hl, Option.bind_some]
 by_cases hf : code8 G m = 0
 ·obtain ⟨h, _, hc⟩ := code8_zero hf
  have hL := lastS_len (m := m) h hc
  have hp := cnt_pos (isT_gp h)
  have hlen := isT_len h
  rw [if_pos hf, l08Lasting_f hk h hc, Option.bind_some, sets_f hk hlen.2, Option.bind_some, hL, w64 (by omega) (by omega), if_pos (by omega), if_pos (by omega)]
  by_cases hs : canS G m = true
  ·obtain ⟨r, h1, h2, h3, h4⟩ := playOnR_eq hf hs
   rw [if_pos (show rdOf false (lastS G m) (cnt G - 1) = true from hs), if_pos (by omega), if_pos (by omega), if_pos (by omega), own8_f (by omega), Option.bind_some]
   have hfill := spec_fillS (k := k) (G := G) (S := G) (sets := (setsN G m).map fun x : Nat => (x : Int)) (L := lastS G m) (M := (cnt G).toNat) (by omega) rfl (cnt G).toNat 0 k (by omega) (by omega) (by omega)
   rw [List.length_replicate]
   refine Eq.trans hfill ?_
   rw [spec_playS hk h hc k G (cnt G - 1) _ _ (playS_start h hc hs) (ofN8_full h), playS_mono G m 4001 k _ _ _ r (by omega) h1, h2]
   rfl
  ·rw [if_neg (show ¬ rdOf false (lastS G m) (cnt G - 1) = true from hs)]
   unfold playOnR
   rw [if_pos hf, if_neg hs]
 ·rw [if_neg hf]
  unfold playOnR; rw [if_neg hf]
theorem impl_LeastPlayOn_f {k : Nat} {G : List Int} {m : Int} (hk : 2097152 ≤ k) (hl : G.length ≤ 1048576) : impl_LeastPlayOn.f k G m = some (playOnR G m) := by
 have hcode := code8_impl (m := m) hk hl
 unfold impl_LeastPlayOn.f impl_LeastPlayOn.g
 rw [← Option.bind_assoc, hcode, Option.bind_some]
 by_cases hf : code8 G m = 0
 ·obtain ⟨h, _, hc⟩ := code8_zero hf
  have hp := cnt_pos (isT_gp h)
  rw [if_pos hf, setGraphOf_f hk h hc, Option.bind_some, sgCan_f h hc, Option.bind_some]
  by_cases hs : canS G m = true
  ·obtain ⟨r, h1, h2, h3, h4⟩ := playOnR_eq hf hs
   rw [if_pos hs, states_f hk h, Option.bind_some, w64 (by omega) (by omega)]
   refine (impl_playS hk h hc k (cnt G - 1) [] _ [] (playS_start h hc hs) (fun i hi => ?_)).trans ?_
   ·rw [rd_lt hi, mgI_nil]
    simp
   ·rw [playS_mono G m 4001 k _ _ _ r (by omega) h1, h2]; rfl
  ·rw [if_neg hs]
   unfold playOnR; rw [if_pos hf, if_neg hs]
 ·rw [if_neg hf]
  unfold playOnR; rw [if_neg hf]
end Go.Proofs.YtcbhhbkghbnljaaGreatDoor.Vf
