/- States: what keeps lasts, and steps lead to states. -/
import Derived.Test.YtcbhhbkghbnljaaQDraw3
set_option linter.unusedVariables false
set_option linter.unusedSimpArgs false
namespace Go.Proofs.Ytcbhhbkghbnljaa.Vf
open Go Go.V Go.RowKit

theorem likeInts_self {k : Nat} (hk : 2097152 ≤ k) {l : List Int} (hl : l.length ≤ 1048576) : laws_likeInts.f k l l = some true := by
  have key : ∀ (d i n : Nat), l.length - i = d → i ≤ l.length → d < n → laws_likeInts.l0 k n l l i = some true := by
    intro d
    induction d with
    | zero =>
      intro i n hd hi hn
      cases n with
      | zero => omega
      | succ n =>
        simp only [laws_likeInts.l0, laws_likeInts.s0]
        rw [if_neg (by omega)]
    | succ d ih =>
      intro i n hd hi hn
      cases n with
      | zero => omega
      | succ n =>
        simp only [laws_likeInts.l0, laws_likeInts.s0]
        rw [w64n (by omega), if_pos (by omega), if_pos (by omega), if_pos (by omega), if_pos (by omega), if_pos (by omega), if_pos trivial]
        exact ih (i + 1) n (by omega) (by omega) (by omega)
  unfold laws_likeInts.f laws_likeInts.g
  rw [if_pos rfl]
  exact key l.length 0 k (by omega) (by omega) (by omega)

def countStR (G : List Int) : Int × Int := if isT G = true then (cnt G, 0) else (0, 1)

theorem spec_CountStates_f {k : Nat} {G : List Int} (hk : 2097152 ≤ k) (hl : G.length ≤ 1048576) : spec_CountStates.f k G = some (countStR G) := by
  unfold spec_CountStates.f countStR
  rw [l01Is_f hk hl, Option.bind_some]
  by_cases h : isT G = true
  · rw [if_pos h, if_pos h, l02Count_f hk h, Option.bind_some]
  · rw [if_neg h, if_neg h]

theorem impl_CountStates_f {k : Nat} {G : List Int} (hk : 2097152 ≤ k) (hl : G.length ≤ 1048576) : impl_CountStates.f k G = some (countStR G) := by
  unfold impl_CountStates.f countStR
  rw [tasksCode_f hk hl, Option.bind_some]
  by_cases h : isT G = true
  · rw [if_pos h, if_pos h, if_pos rfl, if_pos rfl, states_f hk h, Option.bind_some]
  · rw [if_neg h, if_neg h, if_neg (by decide)]

def stepS (G S : List Int) (c : Int) : List Int × Int := match step G S c with
  | some T => (T, 0)
  | none => ([], 4)
def stepStR (G S : List Int) (c : Int) : List Int × Int := if isT G = true then (if stB G S = true then (if chB G c = true then stepS G S c else ([], 2)) else ([], 2)) else ([], 1)

theorem stepR_sel {β : Type} (G S : List Int) (c : Int) : (if (stepR [] (step G S c)).2 = true then some ((stepR [] (step G S c)).1, (0 : Int)) else some ([], 4)) = some (stepS G S c) := by
  unfold stepS
  cases step G S c with
  | none => rfl
  | some T => rfl

theorem spec_StepState_f {k : Nat} {G S : List Int} (hk : 2097152 ≤ k) (hl : G.length ≤ 1048576) (hs : S.length ≤ 1048576) (c : Int) : spec_StepState.f k G S c = some (stepStR G S c) := by
  unfold spec_StepState.f stepStR
  rw [l02Code_f hk hl hs, Option.bind_some]
  by_cases h : isT G = true
  · by_cases h2 : stB G S = true
    · simp only [if_pos h, if_pos h2]
      rw [if_pos trivial, l01K_f, Option.bind_some, w64 (by omega) (by omega), l01In_f, Option.bind_some]
      by_cases h3 : chB G c = true
      · have h3' := of_decide_eq_true h3
        rw [if_pos h3, if_pos (decide_eq_true (by omega)), if_pos trivial, l02Step_f hk h (stB_iff.1 h2), Option.bind_some]
        exact stepR_sel (β := Unit) G S c
      · have h3' : ¬ (-1 ≤ c ∧ c < G.length) := fun e => h3 (decide_eq_true e)
        rw [if_neg h3, if_neg (by simp; omega)]
    · simp only [if_pos h, if_neg h2]
      rw [if_neg (by decide), if_neg (by decide)]
  · simp only [if_neg h]
    rw [if_neg (by decide), if_neg (by decide)]

theorem impl_StepState_f {k : Nat} {G S : List Int} (hk : 2097152 ≤ k) (hl : G.length ≤ 1048576) (hs : S.length ≤ 1048576) (c : Int) : impl_StepState.f k G S c = some (stepStR G S c) := by
  unfold impl_StepState.f stepStR
  rw [isState_f hk hs, Option.bind_some]
  by_cases h2 : stB G S = true
  · rw [if_pos h2, isChoice_f hl, Option.bind_some, tasksCode_f hk hl, Option.bind_some]
    by_cases h : isT G = true
    · simp only [if_pos h, if_pos h2]
      by_cases h3 : chB G c = true
      · simp only [if_pos h3]
        rw [if_pos trivial, step_f hk h (stB_iff.1 h2), Option.bind_some]
        exact stepR_sel (β := Unit) G S c
      · simp only [if_neg h3]
        rw [if_neg (by decide)]
    · simp only [if_neg h]
      rw [if_neg (by decide)]
  · rw [if_neg h2, tasksCode_f hk hl, Option.bind_some]
    by_cases h : isT G = true
    · simp only [if_pos h, if_neg h2]
      rw [if_neg (by decide)]; rfl
    · simp only [if_neg h]
      rw [if_neg (by decide)]

/-! ### What is asked of them -/

theorem stt_le : ∀ {G S : List Int}, Stt G S → LeL S G
  | [], [], _ => trivial
  | g :: G, s :: S, h => ⟨h.1.2, stt_le h.2⟩
  | [], _ :: _, h => h.elim
  | _ :: _, [], h => h.elim

/-- Where one state lasts, the full one does. -/
theorem can_any {G S : List Int} (h : isT G = true) (hc : cnt G ≤ 4000) (hS : Stt G S) (hl : (lasting G).getD (num G S).toNat false = true) : canB G = true := by
  have hG := isT_gp h
  have hp := cnt_pos hG
  have key := lasting_sup h hc (X := fun v => (v : Int) < cnt G ∧ ∃ S, Stt G S ∧ (lasting G).getD (num G S).toNat false = true ∧ LeL S (ofN G (v : Int))) (fun v hv => hv.1) (by
    rintro v ⟨hv, S, hS, hSl, hle⟩
    obtain ⟨b1, b2⟩ := num_bnd hG hS
    obtain ⟨c, T, hk, hr, hs, hT, n1, n2, hTl, _⟩ := keep_next h hc b1 b2 hSl
    rw [ofN_num hG hS] at hs
    obtain ⟨T', hs', hTT⟩ := stepA_wide LeL.rfl' hle hs
    have hT' := step_st hG (ofN_st (v : Int) hG) hs'
    obtain ⟨m1, m2⟩ := num_bnd hG hT'
    have hcm : c ∈ chs G.length := by
      have hm : c ∈ keep G (lasting G) (num G S) := by
        rw [← hr]
        exact rd_mem (l := keep G (lasting G) (num G S)) (i := 0) hk
      exact (List.mem_filter.1 hm).1
    refine ⟨c, T', hcm, hs', by omega, T, hT, hTl, ?_⟩
    rw [show (((num G T').toNat : Nat) : Int) = num G T' by omega, ofN_num hG hT']
    exact hTT)
  unfold canB
  refine key _ ⟨by omega, S, hS, hl, ?_⟩
  rw [show (((cnt G - 1).toNat : Nat) : Int) = cnt G - 1 by omega, ofN_full h]
  exact stt_le hS

theorem trues_pos {L : List Bool} : 0 < trues L ↔ ∃ v, v < L.length ∧ L.getD v false = true := by
  unfold trues
  rw [List.length_pos_iff_exists_mem]
  constructor
  · rintro ⟨b, hb⟩
    obtain ⟨h1, h2⟩ := List.mem_filter.1 hb
    obtain ⟨v, hv, e⟩ := List.getElem_of_mem h1
    refine ⟨v, hv, ?_⟩
    rw [List.getD_eq_getElem?_getD, List.getElem?_eq_getElem hv, Option.getD_some, e]
    simpa using h2
  · rintro ⟨v, hv, e⟩
    rw [List.getD_eq_getElem?_getD, List.getElem?_eq_getElem hv, Option.getD_some] at e
    exact ⟨true, List.mem_filter.2 ⟨by rw [← e]; exact List.getElem_mem hv, by simp⟩⟩

theorem can_count {G : List Int} (h : isT G = true) (hc : cnt G ≤ 4000) : canB G = decide ((0 : Int) < (trues (lasting G) : Nat)) := by
  have hG := isT_gp h
  have hp := cnt_pos hG
  have hlen := lasting_len h hc
  rw [Bool.eq_iff_iff, decide_eq_true_eq]
  constructor
  · intro hb
    have := trues_pos.2 ⟨(cnt G - 1).toNat, by omega, hb⟩
    omega
  · intro hb
    obtain ⟨v, hv, e⟩ := trues_pos.1 (show 0 < trues (lasting G) by omega)
    refine can_any h hc (ofN_st (v : Int) hG) ?_
    rw [num_ofN hG (by omega) (by omega)]
    simpa using e

theorem stepA_at {c : Int} : ∀ {j : Int} {G S T : List Int}, stepA c j G S = some T → S.length = G.length → ∀ i : Nat, i < T.length → j + i ≠ c → rd T i = rd S i - 1
  | j, [], S, T, h, _, i, hi, _ => by simp [stepA] at h; subst h; simp at hi
  | j, g :: G, [], T, h, hl, i, hi, _ => by simp at hl
  | j, g :: G, s :: S, T, h, hl, i, hi, hne => by
    simp only [stepA] at h
    have cons : ∀ (a : Int) (l : List Int) (i : Nat), rd (a :: l) ((i + 1 : Nat) : Int) = rd l (i : Int) := fun a l i => by rw [rd_nat, rd_nat]; rfl
    by_cases e : j = c
    · rw [if_pos e] at h
      obtain ⟨T1, h1, rfl⟩ := Option.map_eq_some_iff.1 h
      cases i with
      | zero => exact absurd (by simpa using e) hne
      | succ i =>
        rw [cons, cons]
        exact stepA_at h1 (by simpa using hl) i (by simpa using hi) (fun e' => hne (by rw [← e']; push_cast; omega))
    · rw [if_neg e] at h
      by_cases e2 : s < 2
      · rw [if_pos e2] at h; cases h
      · rw [if_neg e2] at h
        obtain ⟨T1, h1, rfl⟩ := Option.map_eq_some_iff.1 h
        cases i with
        | zero => rfl
        | succ i =>
          rw [cons, cons]
          exact stepA_at h1 (by simpa using hl) i (by simpa using hi) (fun e' => hne (by rw [← e']; push_cast; omega))

/-- The rest of the law: what keeps, lasts. -/
theorem states_l1 {k : Nat} {G S : List Int} (hk : 2097152 ≤ k) (h : isT G = true) (hS : Stt G S) (hc : cnt G ≤ 4000) : ∀ (d i n : Nat), (keep G (lasting G) (num G S)).length - i = d → i ≤ (keep G (lasting G) (num G S)).length → d < n →
    laws_FnStates.l1 k n G S (keep G (lasting G) (num G S)) i = some true := by
  have hG := isT_gp h
  have hGl := isT_len h
  have hkl := keep_len G (lasting G) (num G S)
  intro d
  induction d with
  | zero =>
    intro i n hd hi hn
    cases n with
    | zero => omega
    | succ n =>
      simp only [laws_FnStates.l1, laws_FnStates.s1]
      rw [if_neg (by omega)]
  | succ d ih =>
    intro i n hd hi hn
    cases n with
    | zero => omega
    | succ n =>
      have hm : rd (keep G (lasting G) (num G S)) i ∈ keep G (lasting G) (num G S) := rd_mem (by omega)
      obtain ⟨hm1, hm2⟩ := List.mem_filter.1 hm
      unfold goodC at hm2
      rw [ofN_num hG hS] at hm2
      have hch : chB G (rd (keep G (lasting G) (num G S)) i) = true := by
        unfold chs at hm1
        obtain ⟨z, hz, e⟩ := List.mem_map.1 hm1
        have := List.mem_range.1 hz
        exact decide_eq_true (by omega)
      simp only [laws_FnStates.l1, laws_FnStates.s1]
      rw [if_pos (by omega), if_pos (by omega), if_pos (by omega), impl_StepState_f hk (by omega) (by rw [hS.length]; omega), Option.bind_some, w64n (by omega)]
      unfold stepStR
      rw [if_pos h, if_pos (stB_iff.2 hS), if_pos hch]
      unfold stepS
      cases hs : step G S (rd (keep G (lasting G) (num G S)) i) with
      | none => rw [hs] at hm2; cases hm2
      | some T =>
        rw [hs] at hm2
        have hT := step_st hG hS hs
        simp only
        rw [impl_IsLasting_f hk (by omega) (by rw [hT.length]; omega), Option.bind_some, if_pos trivial]
        have hg : given G T = 0 := by
          unfold given
          rw [if_pos h, if_pos (stB_iff.2 hT), if_neg (by omega)]
        unfold isLastR
        rw [if_pos hg, if_pos rfl, if_pos hm2]
        exact ih (i + 1) n (by omega) (by omega) (by omega)

noncomputable def tail2 (k : Nat) (G S : List Int) : Option Bool := if (keepR G S).2 = 0 then (if (isLastR G S).2 = 0 then (if (isLastR G S).1 = true then (if ((keepR G S).1.length : Int) = 0 then (some false) else (laws_FnStates.l1 k k G S (keepR G S).1 0)) else (some false)) else (some false)) else (if ((keepR G S).1.length : Int) = 0 then (if (keepR G S).2 = 5 then (if (isLastR G S).2 = 0 then (some (!decide ((isLastR G S).1 = true))) else (some false)) else (some true)) else (some false))

theorem tail2_ok {k : Nat} {G S : List Int} (hk : 2097152 ≤ k) : tail2 k G S = some true := by
  unfold tail2 keepR isLastR
  by_cases hg : given G S = 0
  · obtain ⟨h, hS, hc⟩ := given_zero hg
    simp only [if_pos hg]
    by_cases hb : (lasting G).getD (num G S).toNat false = true
    · simp only [if_pos hb]
      obtain ⟨b1, b2⟩ := num_bnd (isT_gp h) hS
      have hne := lasting_good h hc b1 b2 hb
      have hlen : 0 < (keep G (lasting G) (num G S)).length := List.length_pos_iff.2 hne
      rw [if_pos trivial, if_pos trivial, if_neg (by omega)]
      have hkl := keep_len G (lasting G) (num G S)
      have := isT_len h
      exact states_l1 hk h hS hc _ 0 k rfl (by omega) (by omega)
    · simp only [if_neg hb]
      rw [if_neg (by decide), if_pos (by decide), if_pos (by decide), if_pos (by decide)]
      rw [Bool.not_eq_true] at hb
      rw [hb]; rfl
  · simp only [if_neg hg]
    have h5 : given G S ≠ 5 := by
      unfold given
      split
      · split
        · split <;> decide
        · decide
      · decide
    rw [if_pos (by simp), if_neg h5]

/-- The step of the law: it leads to a state. -/
theorem states_l0 {k : Nat} {G S Y U T : List Int} {c : Int} (hk : 2097152 ≤ k) (h : isT Y = true) (hU : Stt Y U) (hs : step Y U c = some T) : ∀ (d i n : Nat), T.length - i = d → i ≤ T.length → d < n →
    laws_FnStates.l0 k n G S (keepR G S).1 (keepR G S).2 (isLastR G S).1 (isLastR G S).2 Y U c T i = some true := by
  have hG := isT_gp h
  have hGl := isT_len h
  have hT := step_st hG hU hs
  have hTl := hT.length
  have hUl := hU.length
  intro d
  induction d with
  | zero =>
    intro i n hd hi hn
    cases n with
    | zero => omega
    | succ n =>
      simp only [laws_FnStates.l0, laws_FnStates.s0]
      rw [if_neg (by omega)]
      exact tail2_ok hk
  | succ d ih =>
    intro i n hd hi hn
    cases n with
    | zero => omega
    | succ n =>
      have b1 := stt_at hT (i := i) (by omega)
      have b2 := stt_at hU (i := i) (by omega)
      have b3 := hG _ (rd_mem (l := Y) (i := i) (by omega))
      simp only [laws_FnStates.l0, laws_FnStates.s0]
      rw [w64n (by omega), if_pos (by omega), if_pos (by omega), if_pos (by omega), if_neg (by omega), if_pos (by omega), if_pos (by omega), if_pos (by omega), if_pos (by omega), if_neg (by omega)]
      have next := ih (i + 1) n (by omega) (by omega) (by omega)
      by_cases e : (i : Int) = c
      · rw [if_pos e]; exact next
      · rw [if_neg e, if_pos (by omega), if_pos (by omega), if_pos (by omega), if_pos (by omega), w64 (by omega) (by omega), if_pos (stepA_at hs hUl i (by omega) (by omega))]
        exact next

theorem law_FnStates {k : Nat} {l : List Int} (hk : 2097152 ≤ k) (hb : ∀ x ∈ l, 0 ≤ x ∧ x ≤ 255) : laws_FnStates.f k l = some true := by
  unfold laws_FnStates.f laws_FnStates.g laws_big.f
  rw [Option.bind_some]
  by_cases hbig : 4096 < (l.length : Int)
  · rw [if_pos (decide_eq_true hbig)]
  rw [if_neg (by simpa using hbig)]
  obtain ⟨⟨G, S⟩, e1, hG, hS⟩ := l02With_ok hk hb (show l.length ≤ 4096 by omega)
  obtain ⟨⟨Y, U, c⟩, e2, hY, hU⟩ := drawStepState_ok hk hb (show l.length ≤ 4096 by omega)
  obtain ⟨Z, e3, hZ⟩ := l02Draw_ok hk hb (show l.length ≤ 4096 by omega)
  obtain ⟨⟨A, B, C⟩, e4, hA, hB, hC⟩ := drawFirstKept_ok hk hb (show l.length ≤ 4096 by omega)
  simp only at hG hS hY hU hA hB hC
  unfold spec_DrawKeepingChoices.f spec_DrawCountLasting.f
  simp only [e1, e2, e3, e4, Option.bind_some]
  rw [impl_KeepingChoices_f hk (by omega) (by omega), spec_KeepingChoices_f hk (by omega) (by omega)]
  simp only [Option.bind_some]
  rw [if_pos trivial, likeInts_self hk keepR_len]
  simp only [Option.bind_some]
  rw [if_pos trivial, impl_IsLasting_f hk (by omega) (by omega), spec_IsLasting_f hk (by omega) (by omega)]
  simp only [Option.bind_some]
  rw [if_pos trivial, if_pos trivial, impl_StepState_f hk (by omega) (by omega), spec_StepState_f hk (by omega) (by omega)]
  simp only [Option.bind_some]
  have hstep : (stepStR Y U c).1.length ≤ 1048576 := by
    unfold stepStR
    split
    · rename_i h
      split
      · rename_i h2
        split
        · unfold stepS
          cases hs : step Y U c with
          | none => simp
          | some T => simp only; rw [(step_st (isT_gp h) (stB_iff.1 h2) hs).length]; omega
        · simp
      · simp
    · simp
  rw [if_pos trivial, likeInts_self hk hstep]
  simp only [Option.bind_some]
  rw [if_pos trivial, impl_CountStates_f hk (by omega), spec_CountStates_f hk (by omega)]
  simp only [Option.bind_some]
  rw [if_pos trivial, if_pos trivial, impl_CountLasting_f hk (by omega), spec_CountLasting_f hk (by omega)]
  simp only [Option.bind_some]
  rw [if_pos trivial, if_pos trivial, impl_FirstKept_f hk (by omega) (by omega) (by omega), spec_FirstKept_f hk (by omega) (by omega) (by omega)]
  simp only [Option.bind_some]
  rw [if_pos trivial, if_pos trivial, impl_CountStates_f hk (by omega), impl_CanServe_f hk (by omega)]
  simp only [Option.bind_some]
  have tail : (if (stepStR Y U c).2 = 0 then (laws_FnStates.l0 k k G S (keepR G S).1 (keepR G S).2 (isLastR G S).1 (isLastR G S).2 Y U c (stepStR Y U c).1 0) else tail2 k G S) = some true := by
    by_cases hz : (stepStR Y U c).2 = 0
    · rw [if_pos hz]
      have : ∃ T, isT Y = true ∧ Stt Y U ∧ step Y U c = some T ∧ (stepStR Y U c).1 = T := by
        unfold stepStR at hz ⊢
        split at hz
        · rename_i h
          split at hz
          · rename_i h2
            split at hz
            · rename_i h3
              rw [if_pos h, if_pos h2, if_pos h3]
              unfold stepS at hz ⊢
              cases hs : step Y U c with
              | none => rw [hs] at hz; simp at hz
              | some T => exact ⟨T, h, stB_iff.1 h2, rfl, rfl⟩
            · simp at hz
          · simp at hz
        · simp at hz
      obtain ⟨T, h1, h2, h3, h4⟩ := this
      rw [h4]
      have := (step_st (isT_gp h1) h2 h3).length
      exact states_l0 hk h1 h2 h3 _ 0 k rfl (by omega) (by omega)
    · rw [if_neg hz]; exact tail2_ok hk
  by_cases hf : few Z = 0
  · obtain ⟨z1, z2⟩ := few_zero hf
    have ec : countR Z = (((trues (lasting Z) : Nat) : Int), 0) := by unfold countR; rw [if_pos hf]
    have es : countStR Z = (cnt Z, 0) := by unfold countStR; rw [if_pos z1]
    have en : canR Z = (canB Z, 0) := by unfold canR canB; rw [if_pos hf]
    have hle := trues_le (lasting Z)
    have hlen := lasting_len z1 z2
    rw [ec, es, en]
    simp only
    rw [if_pos trivial, if_pos trivial, if_pos trivial, if_neg (by omega), if_neg (by omega), if_pos (can_count z1 z2)]
    exact tail
  · have ec : countR Z = (0, few Z) := by unfold countR; rw [if_neg hf]
    rw [ec]
    simp only
    rw [if_neg hf]
    exact tail

end Go.Proofs.Ytcbhhbkghbnljaa.Vf
