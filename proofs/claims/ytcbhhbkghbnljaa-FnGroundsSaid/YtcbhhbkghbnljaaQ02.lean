/- States of tasks: what the functions of program and reference give. -/
import Derived.Test.YtcbhhbkghbnljaaQ01
import Derived.Test.YtcbhhbkghbnljaaQM02
set_option linter.unusedVariables false
set_option linter.unusedSimpArgs false
namespace Go.Proofs.Ytcbhhbkghbnljaa.Vf
open Go Go.V Go.RowKit

theorem isT_gp {G : List Int} (h : isT G = true) : Gp G := (isT_iff.1 h).2
theorem isT_len {G : List Int} (h : isT G = true) : 1 ≤ G.length ∧ G.length ≤ 8 := (isT_iff.1 h).1

theorem mul_bnd {a g c B : Int} (ha : 1 ≤ a) (hg : 1 ≤ g) (hc : 1 ≤ c) (h : a * (g * c) ≤ B) : 1 ≤ a * g ∧ a * g ≤ B := by
  have h1 : 1 ≤ a * g := by have := Int.mul_le_mul ha hg (by omega) (by omega); simpa using this
  refine ⟨h1, Int.le_trans ?_ h⟩
  rw [← Int.mul_assoc]
  have := Int.mul_le_mul_of_nonneg_left hc (show (0:Int) ≤ a * g by omega)
  simpa using this

theorem states_loop {k : Nat} {G : List Int} (hG : Gp G) (hl : G.length ≤ 8) : ∀ (d i n : Nat) (a : Int), G.length - i = d → i ≤ G.length → d < n → 1 ≤ a → a * cnt (G.drop i) ≤ 6553600000000 →
    impl_Tasks_states.l0 k n a G G.length i = some (a * cnt (G.drop i)) := by
  intro d
  induction d with
  | zero =>
    intro i n a hd hi hn ha hb
    obtain rfl : i = G.length := by omega
    cases n with
    | zero => omega
    | succ n =>
      simp only [impl_Tasks_states.l0, impl_Tasks_states.s0]
      rw [if_neg (by omega), List.drop_length]
      simp [cnt]
  | succ d ih =>
    intro i n a hd hi hn ha hb
    cases n with
    | zero => omega
    | succ n =>
      simp only [impl_Tasks_states.l0, impl_Tasks_states.s0]
      rw [drop_cons (by omega)] at hb ⊢
      simp only [cnt] at hb ⊢
      have hg := hG _ (rd_mem (l := G) (i := i) (by omega))
      have hc := cnt_pos (cnt_drop (i + 1) hG)
      obtain ⟨h1, h2⟩ := mul_bnd ha hg.1 hc hb
      rw [if_pos (by omega), if_pos (by omega), if_pos (by omega), w64 (by omega) (by omega), w64n (by omega), ih (i + 1) n _ (by omega) (by omega) (by omega) h1 (by rw [Int.mul_assoc]; exact hb), Int.mul_assoc]

theorem states_f {k : Nat} {G : List Int} (hk : 2097152 ≤ k) (h : isT G = true) : impl_Tasks_states.f k G = some (cnt G) := by
  unfold impl_Tasks_states.f impl_Tasks_states.g
  have hc := cnt_small (isT_gp h) (isT_len h).2
  have := isT_len h
  have := states_loop (k := k) (isT_gp h) (isT_len h).2 G.length 0 k 1 (by omega) (by omega) (by omega) (by omega) (by rw [List.drop_zero]; omega)
  exact this.trans (by rw [List.drop_zero, Int.one_mul])

/-! ### Numbers -/

theorem stt_at : ∀ {G S : List Int} {i : Nat}, Stt G S → i < G.length → 1 ≤ rd S i ∧ rd S i ≤ rd G i
  | g :: G, s :: S, 0, h, _ => by simpa [rd] using h.1
  | g :: G, s :: S, i + 1, h, hi => by
    have := stt_at (i := i) h.2 (by simpa using hi)
    rw [rd_nat, rd_nat] at this ⊢
    simpa using this
  | [], [], _, _, hi => by simp at hi
  | [], _ :: _, _, h, _ => h.elim
  | _ :: _, [], _, h, _ => h.elim

theorem num_next {a g s c B : Int} (ha : 0 ≤ a) (h1 : 1 ≤ s) (h2 : s ≤ g) (hc : 1 ≤ c) (h : (a + 1) * (g * c) ≤ B) : 0 ≤ a * g ∧ a * g + s ≤ B + 1 ∧ 0 ≤ a * g + s - 1 ∧ (a * g + s - 1 + 1) * c ≤ B := by
  have h3 : 0 ≤ a * g := Int.mul_nonneg ha (by omega)
  have h4 : (a * g + s - 1 + 1) * c ≤ (a + 1) * (g * c) := by
    rw [← Int.mul_assoc]
    refine Int.mul_le_mul_of_nonneg_right ?_ (by omega)
    rw [Int.add_mul, Int.one_mul]; omega
  have h5 : (a * g + s - 1 + 1) * 1 ≤ (a * g + s - 1 + 1) * c := Int.mul_le_mul_of_nonneg_left hc (by omega)
  omega

theorem number_loop {k : Nat} {G S : List Int} (hG : Gp G) (hl : G.length ≤ 8) (hs : Stt G S) : ∀ (d i n : Nat) (a : Int), G.length - i = d → i ≤ G.length → d < n → 0 ≤ a → (a + 1) * cnt (G.drop i) ≤ 6553600000000 →
    impl_Tasks_number.l0 k n G a S S.length i = some (numA a (G.drop i) (S.drop i)) := by
  have hsl := hs.length
  intro d
  induction d with
  | zero =>
    intro i n a hd hi hn ha hb
    obtain rfl : i = G.length := by omega
    cases n with
    | zero => omega
    | succ n =>
      simp only [impl_Tasks_number.l0, impl_Tasks_number.s0]
      rw [if_neg (by omega), List.drop_length]
      simp [numA]
  | succ d ih =>
    intro i n a hd hi hn ha hb
    cases n with
    | zero => omega
    | succ n =>
      simp only [impl_Tasks_number.l0, impl_Tasks_number.s0]
      rw [drop_cons (l := G) (by omega)] at hb ⊢
      rw [drop_cons (l := S) (by omega)]
      simp only [cnt, numA] at hb ⊢
      have hg := hG _ (rd_mem (l := G) (i := i) (by omega))
      have hc := cnt_pos (cnt_drop (i + 1) hG)
      obtain ⟨e1, e2⟩ := stt_at (i := i) hs (by omega)
      obtain ⟨q1, q2, q3, q4⟩ := num_next ha e1 e2 hc hb
      rw [if_pos (by omega), if_pos (by omega), if_pos (by omega), if_pos (by omega), if_pos (by omega), w64 (x := a * rd G i) (by omega) (by omega), w64 (x := a * rd G i + rd S i) (by omega) (by omega), w64 (by omega) (by omega), w64n (by omega),
        ih (i + 1) n _ (by omega) (by omega) (by omega) q3 q4]

theorem number_f {k : Nat} {G S : List Int} (hk : 2097152 ≤ k) (h : isT G = true) (hs : Stt G S) : impl_Tasks_number.f k G S = some (num G S) := by
  unfold impl_Tasks_number.f impl_Tasks_number.g
  have hc := cnt_small (isT_gp h) (isT_len h).2
  have := isT_len h
  have := number_loop (k := k) (isT_gp h) (isT_len h).2 hs G.length 0 k 0 (by omega) (by omega) (by omega) (by omega) (by rw [List.drop_zero]; omega)
  exact this

theorem ofA_nonneg : ∀ {G : List Int} {n : Int}, Gp G → 0 ≤ n → 0 ≤ (ofA G n).2 := by
  intro G n h hn
  rw [ofA_snd n h]
  exact Int.ediv_nonneg hn (by have := cnt_pos h; omega)

theorem ofA_le {G : List Int} {n : Int} (h : Gp G) (hn : 0 ≤ n) : (ofA G n).2 ≤ n := by
  rw [ofA_snd n h]
  exact Int.ediv_le_self _ hn

theorem set_rep (m : Nat) (x : Int) (done : List Int) : (List.replicate (m + 1) 0 ++ done).set m x = List.replicate m 0 ++ x :: done := by
  rw [List.replicate_succ', List.append_assoc, List.set_append_right _ _ (by simp)]
  simp

theorem numbered_loop {k : Nat} {G : List Int} {v : Int} (hG : Gp G) (hl : G.length ≤ 8) (hv : 0 ≤ v) (hv2 : v ≤ 6553600000000) : ∀ (m n : Nat), m ≤ G.length → m < n →
    impl_Tasks_numbered.l0 k n (ofA (G.drop m) v).2 G (List.replicate m 0 ++ (ofA (G.drop m) v).1) ((m : Int) - 1) = some (ofN G v) := by
  intro m
  induction m with
  | zero =>
    intro n hm hn
    cases n with
    | zero => omega
    | succ n =>
      simp only [impl_Tasks_numbered.l0, impl_Tasks_numbered.s0]
      rw [if_neg (by omega), List.drop_zero]
      rfl
  | succ m ih =>
    intro n hm hn
    cases n with
    | zero => omega
    | succ n =>
      have hi : (((m + 1 : Nat) : Int) - 1) = (m : Int) := by omega
      have hg := hG _ (rd_mem (l := G) (i := m) (by omega))
      have hGd := cnt_drop (m + 1) hG
      have h1 := ofA_nonneg hGd hv
      have h2 := ofA_le hGd hv
      have hlen := ofA_len (G.drop (m + 1)) v
      rw [hi]
      simp only [impl_Tasks_numbered.l0, impl_Tasks_numbered.s0]
      rw [if_pos (by omega), if_pos (by omega), if_pos (by omega), if_neg (by omega), if_pos (by omega), if_pos (by simp; omega), if_pos (by omega), if_pos (by omega), if_neg (by omega)]
      have hd : ofA (G.drop m) v = (((ofA (G.drop (m + 1)) v).2 % rd G m + 1) :: (ofA (G.drop (m + 1)) v).1, (ofA (G.drop (m + 1)) v).2 / rd G m) := by
        rw [drop_cons (l := G) (i := m) (by omega)]; rfl
      have h3 := Int.emod_nonneg (ofA (G.drop (m + 1)) v).2 (show rd G m ≠ 0 by omega)
      have h4 := Int.emod_lt_of_pos (ofA (G.drop (m + 1)) v).2 (show 0 < rd G m by omega)
      have h5 := Int.ediv_nonneg h1 (show 0 ≤ rd G m by omega)
      have h6 := Int.ediv_le_self (rd G m) h1
      have := ih n (by omega) (by omega)
      rw [hd] at this
      rw [Int.tdiv_eq_ediv_of_nonneg h1, Int.tmod_eq_emod_of_nonneg h1, w64 (x := (ofA (G.drop (m + 1)) v).2 / rd G m) (by omega) (by omega), w64 (x := (ofA (G.drop (m + 1)) v).2 % rd G m + 1) (by omega) (by omega), w64 (x := (m : Int) - 1) (by omega) (by omega), Int.toNat_natCast, set_rep]
      exact this

theorem numbered_f {k : Nat} {G : List Int} {v : Int} (hk : 2097152 ≤ k) (h : isT G = true) (hv : 0 ≤ v) (hv2 : v ≤ 6553600000000) : impl_Tasks_numbered.f k G v = some (ofN G v) := by
  unfold impl_Tasks_numbered.f impl_Tasks_numbered.g
  have := isT_len h
  rw [many_f, Option.bind_some, if_pos (by omega), if_pos (by omega), if_pos (by omega), Option.bind_some, Int.toNat_natCast, w64 (by omega) (by omega)]
  have := numbered_loop (k := k) (isT_gp h) (isT_len h).2 hv hv2 G.length k (by omega) (by omega)
  rw [List.drop_length] at this
  simpa [ofA] using this

/-! ### Steps -/

theorem clone_f {l : List Int} (hl : l.length ≤ 1048576) : slices_Clone_int64_int64.f l = some l := by
  unfold slices_Clone_int64_int64.f
  by_cases h : l.length = 0
  · rw [if_pos h, List.eq_nil_of_length_eq_zero h]
  · rw [if_neg h, if_pos (by omega), List.nil_append]

def stepR (pre : List Int) (o : Option (List Int)) : List Int × Bool :=
  match o with
  | some T => (pre ++ T, true)
  | none => ([], false)

theorem stepR_map (pre : List Int) (x : Int) (o : Option (List Int)) : stepR pre (o.map (x :: ·)) = stepR (pre ++ [x]) o := by
  cases o <;> simp [stepR]

theorem rd_app (pre S : List Int) (i : Nat) (h : pre.length = i) (hi : i < S.length) : rd (pre ++ S.drop i) i = rd S i := by
  rw [rd_nat, rd_nat, List.getD_eq_getElem?_getD, List.getElem?_append_right (by omega), List.getElem?_drop, List.getD_eq_getElem?_getD]
  congr 2
  omega

theorem set_app (pre S : List Int) (i : Nat) (x : Int) (h : pre.length = i) (hi : i < S.length) : (pre ++ S.drop i).set i x = (pre ++ [x]) ++ S.drop (i + 1) := by
  rw [List.set_append_right _ _ (by omega), drop_cons (l := S) hi]
  simp [h]

theorem step_loop {k : Nat} {G S : List Int} {c : Int} (hG : Gp G) (hl : G.length ≤ 8) (hs : Stt G S) : ∀ (d i n : Nat) (out : List Int), G.length - i = d → i ≤ G.length → d < n → out.length = i →
    impl_Tasks_step.l0 k n c G (out ++ S.drop i) S.length i = some (stepR out (stepA c i (G.drop i) (S.drop i))) := by
  have hsl := hs.length
  intro d
  induction d with
  | zero =>
    intro i n out hd hi hn ho
    obtain rfl : i = G.length := by omega
    cases n with
    | zero => omega
    | succ n =>
      simp only [impl_Tasks_step.l0, impl_Tasks_step.s0]
      rw [if_neg (by omega), List.drop_length, List.drop_eq_nil_of_le (by omega)]
      simp [stepA, stepR]
  | succ d ih =>
    intro i n out hd hi hn ho
    cases n with
    | zero => omega
    | succ n =>
      have hg := hG _ (rd_mem (l := G) (i := i) (by omega))
      obtain ⟨e1, e2⟩ := stt_at (i := i) hs (by omega)
      have hlen : (out ++ S.drop i).length = S.length := by simp; omega
      simp only [impl_Tasks_step.l0, impl_Tasks_step.s0]
      rw [hlen, rd_app out S i ho (by omega), Int.toNat_natCast, set_app out S i _ ho (by omega), set_app out S i _ ho (by omega)]
      conv => rhs; rw [drop_cons (l := G) (i := i) (by omega), drop_cons (l := S) (i := i) (by omega)]
      rw [if_pos (by omega)]
      simp only [stepA]
      by_cases hc : (i : Int) = c
      · rw [if_pos (by simpa using hc), if_pos hc, if_pos (by omega), if_pos (by omega), if_pos (by omega), if_pos (by omega), w64n (by omega), ih (i + 1) n _ (by omega) (by omega) (by omega) (by simp [ho]), stepR_map]
        rfl
      · rw [if_neg (by simpa using hc), if_neg hc, if_pos (by omega), if_pos (by omega)]
        by_cases h2 : rd S i < 2
        · rw [if_pos (by simpa using h2), if_pos h2]; rfl
        · rw [if_neg (by simpa using h2), if_neg h2, if_pos (by omega), if_pos (by omega), if_pos (by omega), if_pos (by omega), w64 (x := rd S i - 1) (by omega) (by omega), w64n (by omega), ih (i + 1) n _ (by omega) (by omega) (by omega) (by simp [ho]), stepR_map]
          rfl

theorem step_f {k : Nat} {G S : List Int} (hk : 2097152 ≤ k) (h : isT G = true) (hs : Stt G S) (c : Int) : impl_Tasks_step.f k G S c = some (stepR [] (step G S c)) := by
  unfold impl_Tasks_step.f impl_Tasks_step.g
  have := isT_len h
  have hsl := hs.length
  rw [clone_f (by omega), Option.bind_some]
  exact step_loop (k := k) (isT_gp h) (isT_len h).2 hs G.length 0 k [] (by omega) (by omega) (by omega) rfl

end Go.Proofs.Ytcbhhbkghbnljaa.Vf
