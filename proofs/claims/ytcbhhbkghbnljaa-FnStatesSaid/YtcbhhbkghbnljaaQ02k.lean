/- How many choices keep. -/
import Derived.Test.YtcbhhbkghbnljaaQ02m
set_option linter.unusedVariables false
set_option linter.unusedSimpArgs false
namespace Go.Proofs.Ytcbhhbkghbnljaa.Vf
open Go Go.V Go.RowKit

def chB (G : List Int) (c : Int) : Bool := decide (-1 ≤ c ∧ c < G.length)
def chsOK (G l : List Int) : Bool := l.all (chB G) && decide ((l.length : Int) ≤ 120)

theorem l02Choices_loop {k : Nat} {G l : List Int} (hG : G.length ≤ 1048576) (hl : l.length ≤ 1048576) : ∀ (d i n : Nat), l.length - i = d → i ≤ l.length → d < n →
    spec_l02Choices.l0 k n l G i = some ((l.drop i).all (chB G) && decide ((l.length : Int) ≤ 120)) := by
  intro d
  induction d with
  | zero =>
    intro i n hd hi hn
    cases n with
    | zero => omega
    | succ n =>
      simp only [spec_l02Choices.l0, spec_l02Choices.s0]
      rw [if_neg (by omega), List.drop_eq_nil_of_le (by omega)]
      simp
  | succ d ih =>
    intro i n hd hi hn
    cases n with
    | zero => omega
    | succ n =>
      simp only [spec_l02Choices.l0, spec_l02Choices.s0]
      rw [if_pos (by omega), if_pos (by omega), if_pos (by omega), l01K_f, Option.bind_some, w64 (x := (G.length : Int) - 1) (by omega) (by omega), l01In_f, Option.bind_some, drop_cons (by omega), List.all_cons, w64n (by omega)]
      by_cases h : -1 ≤ rd l i ∧ rd l i ≤ (G.length : Int) - 1
      · rw [if_pos (by simpa using h), ih (i + 1) n (by omega) (by omega) (by omega)]
        have : chB G (rd l i) = true := by unfold chB; rw [decide_eq_true]; omega
        rw [this, Bool.true_and]
      · rw [if_neg (by simpa using h)]
        have : chB G (rd l i) = false := by unfold chB; rw [decide_eq_false]; omega
        rw [this, Bool.false_and, Bool.false_and]

theorem l02Choices_f {k : Nat} {G l : List Int} (hk : 2097152 ≤ k) (hG : G.length ≤ 1048576) (hl : l.length ≤ 1048576) : spec_l02Choices.f k G l = some (chsOK G l) := by
  unfold spec_l02Choices.f spec_l02Choices.g
  exact l02Choices_loop (k := k) hG hl l.length 0 k (by omega) (by omega) (by omega)

theorem isChoice_f {G : List Int} (hG : G.length ≤ 1048576) (c : Int) : impl_Tasks_isChoice.f G c = some (chB G c) := by
  unfold impl_Tasks_isChoice.f chB
  by_cases h : c = -1
  · rw [if_pos h, decide_eq_true (by omega)]
  · rw [if_neg h, isTask_f G hG, Option.bind_some]
    congr 1
    rw [decide_eq_decide]; omega

theorem areAll_choice {k : Nat} {G l : List Int} (hk : 2097152 ≤ k) (hG : G.length ≤ 1048576) (hl : l.length ≤ 1048576) : impl_areAll_int64_impl_Tasks_isChoice.f k l G = some (l.all (chB G)) := by
  obtain ⟨j, h1, h2⟩ := idx_run (L := slices_IndexFunc_int64_int64_impl_areAll_int64_1_impl_Tasks_isChoice.l0 k) (p := fun x => !chB G x) (l := l) (c := G)
    (fun n i hi => by
      simp only [slices_IndexFunc_int64_int64_impl_areAll_int64_1_impl_Tasks_isChoice.l0, slices_IndexFunc_int64_int64_impl_areAll_int64_1_impl_Tasks_isChoice.s0]
      rw [if_pos (by omega), if_pos (by omega), if_pos (by omega)]
      simp only [impl_areAll_int64_1_impl_Tasks_isChoice.f, isChoice_f hG, Option.bind_some, w64n (show i ≤ 9223372036854775806 by omega)]
      cases chB G (rd l i) <;> simp)
    (fun n => by
      simp only [slices_IndexFunc_int64_int64_impl_areAll_int64_1_impl_Tasks_isChoice.l0, slices_IndexFunc_int64_int64_impl_areAll_int64_1_impl_Tasks_isChoice.s0]
      rw [if_neg (by omega)]) l.length 0 k (by omega) (by omega) (by omega)
  unfold impl_areAll_int64_impl_Tasks_isChoice.f slices_ContainsFunc_int64_int64_impl_areAll_int64_1_impl_Tasks_isChoice.f slices_IndexFunc_int64_int64_impl_areAll_int64_1_impl_Tasks_isChoice.f slices_IndexFunc_int64_int64_impl_areAll_int64_1_impl_Tasks_isChoice.g
  rw [show slices_IndexFunc_int64_int64_impl_areAll_int64_1_impl_Tasks_isChoice.l0 k k l G l.length 0 = some j from h1, Option.bind_some, Option.bind_some]
  rw [List.drop_zero] at h2
  congr 1
  exact all_iff (p := fun x => !chB G x) (fun _ => rfl) h2

/-! ### How many are kept -/

def kept (G : List Int) : List Int → Nat → List Int → Int
  | [], i, _ => i
  | c :: l, i, S => match step G S c with
    | some T => if (lasting G).getD (num G T).toNat false = true then kept G l (i + 1) T else i
    | none => i

theorem spec_kept {k : Nat} {G l : List Int} (hk : 2097152 ≤ k) (h : isT G = true) (hc : cnt G ≤ 4000) (hl : l.length ≤ 1048576) : ∀ (d i n : Nat) (S : List Int), Stt G S → l.length - i = d → i ≤ l.length → d < n →
    spec_FirstKept.l0 k n S l G (lasting G) i = some (kept G (l.drop i) i S, 0) := by
  have hL := lasting_len h hc
  intro d
  induction d with
  | zero =>
    intro i n S hst hd hi hn
    cases n with
    | zero => omega
    | succ n =>
      simp only [spec_FirstKept.l0, spec_FirstKept.s0]
      rw [if_neg (by omega), List.drop_eq_nil_of_le (by omega)]
      simp only [kept]
      congr 2; omega
  | succ d ih =>
    intro i n S hst hd hi hn
    cases n with
    | zero => omega
    | succ n =>
      simp only [spec_FirstKept.l0, spec_FirstKept.s0]
      rw [if_pos (by omega), if_pos (by omega), if_pos (by omega), l02Step_f hk h hst, Option.bind_some, drop_cons (by omega), w64n (by omega)]
      simp only [kept]
      cases hs : step G S (rd l i) with
      | none => rfl
      | some T =>
        have b0 := step_st (isT_gp h) hst hs
        obtain ⟨b1, b2⟩ := num_bnd (isT_gp h) b0
        simp only [stepR, if_true, List.nil_append]
        rw [l02Number_f hk h b0, Option.bind_some, if_pos b1, if_pos (by omega)]
        by_cases hb : (lasting G).getD (num G T).toNat false = true
        · rw [if_pos hb]
          refine (if_pos hb).trans ?_
          exact ih (i + 1) n T b0 (by omega) (by omega) (by omega)
        · rw [if_neg hb]; exact if_neg hb

theorem impl_kept {k : Nat} {G l : List Int} (hk : 2097152 ≤ k) (h : isT G = true) (hc : cnt G ≤ 4000) (hl : l.length ≤ 1048576) (hch : l.all (chB G) = true) : ∀ (d i n : Nat) (S : List Int), Stt G S → l.length - i = d → i ≤ l.length → d < n →
    impl_FirstKept.l0 k n l (G, nxs G (lasting G).length, lasting G) (num G S) l l.length i = some (kept G (l.drop i) i S, 0) := by
  have hL := lasting_len h hc
  intro d
  induction d with
  | zero =>
    intro i n S hst hd hi hn
    cases n with
    | zero => omega
    | succ n =>
      simp only [impl_FirstKept.l0, impl_FirstKept.s0]
      rw [if_neg (by omega), List.drop_eq_nil_of_le (by omega), length_f, Option.bind_some]
      simp only [kept]
      congr 2; omega
  | succ d ih =>
    intro i n S hst hd hi hn
    cases n with
    | zero => omega
    | succ n =>
      obtain ⟨b1, b2⟩ := num_bnd (isT_gp h) hst
      have hnl : (nxs G (lasting G).length).length = (lasting G).length := by simp [nxs]
      have hnx : rdOf ([] : List (Int × Int)) (nxs G (lasting G).length) (num G S) = nx G (num G S) := by
        have := rdOf_nxs (G := G) (m := (lasting G).length) (i := (num G S).toNat) (by omega)
        rwa [show (((num G S).toNat : Nat) : Int) = num G S by omega] at this
      have hc1 : chB G (rd l i) = true := List.all_eq_true.1 hch _ (rd_mem (by omega))
      have hc2 := of_decide_eq_true hc1
      have hmg : mgI (nx G (num G S)) (rd l i) = (step G S (rd l i)).map (num G) := by
        have := mgI_nx (G := G) (v := num G S) (i := (rd l i + 1).toNat) (by omega)
        rw [show (((rd l i + 1).toNat : Nat) : Int) - 1 = rd l i by omega, ofN_num (isT_gp h) hst] at this
        exact this
      simp only [impl_FirstKept.l0, impl_FirstKept.s0]
      rw [if_pos (by omega), if_pos (by omega), if_pos (by omega), if_pos b1, if_pos (by omega), hnx, hmg, drop_cons (by omega), w64n (by omega)]
      simp only [kept]
      cases hs : step G S (rd l i) with
      | none => simp
      | some T =>
        have b0 := step_st (isT_gp h) hst hs
        obtain ⟨c1, c2⟩ := num_bnd (isT_gp h) b0
        simp only [Option.map_some, Option.isSome_some, if_true, Option.getD_some]
        rw [if_pos c1, if_pos (by omega)]
        by_cases hb : (lasting G).getD (num G T).toNat false = true
        · rw [if_pos hb]
          refine (if_pos hb).trans ?_
          exact ih (i + 1) n T b0 (by omega) (by omega) (by omega)
        · rw [if_neg hb]; exact if_neg hb

def keptR (G S l : List Int) : Int × Int := if isT G = true then (if stB G S = true ∧ chsOK G l = true then (if 4000 < cnt G then (0, 3) else if (lasting G).getD (num G S).toNat false = true then (kept G l 0 S, 0) else (0, 5)) else (0, 2)) else (0, 1)

theorem l02Code_f {k : Nat} {G S : List Int} (hk : 2097152 ≤ k) (hl : G.length ≤ 1048576) (hs : S.length ≤ 1048576) : spec_l02Code.f k G S = some (if isT G = true then (if stB G S = true then 0 else 2) else 1) := by
  unfold spec_l02Code.f
  rw [l01Is_f hk hl, Option.bind_some, l02State_f hk hs]
  cases isT G <;> cases stB G S <;> rfl

theorem spec_FirstKept_f {k : Nat} {G S l : List Int} (hk : 2097152 ≤ k) (hG : G.length ≤ 1048576) (hS : S.length ≤ 1048576) (hl : l.length ≤ 1048576) : spec_FirstKept.f k G S l = some (keptR G S l) := by
  unfold spec_FirstKept.f spec_FirstKept.g keptR
  rw [l02Code_f hk hG hS, Option.bind_some]
  by_cases hT : isT G = true
  · rw [if_pos hT, if_pos hT]
    by_cases hst : stB G S = true
    · rw [if_pos hst, if_pos rfl, l02Choices_f hk hG hl, Option.bind_some]
      by_cases hch : chsOK G l = true
      · rw [if_pos hch, if_pos rfl, if_pos ⟨hst, hch⟩, l02Few_f hk hG, Option.bind_some, hT]
        by_cases hc : 4000 < cnt G
        · simp only [if_true, if_pos hc]
          simp
        · have hS2 := stB_iff.1 hst
          have hL := lasting_len hT (by omega)
          obtain ⟨b1, b2⟩ := num_bnd (isT_gp hT) hS2
          simp only [if_true, if_neg hc]
          rw [l02Lasting_f hk hT (by omega), Option.bind_some, l02Number_f hk hT hS2, Option.bind_some, if_pos b1, if_pos (by omega)]
          by_cases hb : (lasting G).getD (num G S).toNat false = true
          · rw [if_pos hb]
            refine (if_pos hb).trans ?_
            exact spec_kept hk hT (by omega) hl l.length 0 k S hS2 (by omega) (by omega) (by omega)
          · rw [if_neg hb]; exact if_neg hb
      · rw [if_neg hch, if_neg (show ¬ (stB G S = true ∧ chsOK G l = true) from fun x => hch x.2)]
    · rw [if_neg hst, if_neg (show ¬ (stB G S = true ∧ chsOK G l = true) from fun x => hst x.1)]
      simp
  · rw [if_neg hT, if_neg hT]
    simp

theorem impl_FirstKept_f {k : Nat} {G S l : List Int} (hk : 2097152 ≤ k) (hG : G.length ≤ 1048576) (hS : S.length ≤ 1048576) (hl : l.length ≤ 1048576) : impl_FirstKept.f k G S l = some (keptR G S l) := by
  have hno : ¬ (stB G S = true ∧ chsOK G l = true) → (if isT G = true then (if stB G S = true ∧ chsOK G l = true then (if 4000 < cnt G then ((0, 3) : Int × Int) else if (lasting G).getD (num G S).toNat false = true then (kept G l 0 S, 0) else (0, 5)) else (0, 2)) else (0, 1)) = (0, if isT G = true then 2 else 1) := by
    intro hn
    rw [if_neg hn]
    cases isT G <;> rfl
  have hst0 : impl_statesCode.f k G false = some (if isT G = true then 2 else 1) := by
    rw [statesCode_f hk hG]; cases isT G <;> rfl
  have hne : ¬ (if isT G = true then 2 else 1 : Int) = 0 := by cases isT G <;> simp
  unfold impl_FirstKept.f impl_FirstKept.g keptR
  rw [isState_f hk hS, Option.bind_some]
  by_cases hst : stB G S = true
  · rw [if_pos hst]
    by_cases h120 : (l.length : Int) ≤ 120
    · rw [if_pos h120, areAll_choice hk hG hl, Option.bind_some]
      by_cases hall : l.all (chB G) = true
      · have hch : chsOK G l = true := by unfold chsOK; rw [hall, decide_eq_true h120]; rfl
        rw [hall, statesCode_f hk hG, Option.bind_some]
        by_cases hT : isT G = true
        · have hand : stB G S = true ∧ chsOK G l = true := ⟨hst, hch⟩
          simp only [hT, if_true, if_pos hand]
          by_cases hc : 4000 < cnt G
          · simp only [if_pos hc]
            simp
          · have hS2 := stB_iff.1 hst
            have hL := lasting_len hT (by omega)
            obtain ⟨b1, b2⟩ := num_bnd (isT_gp hT) hS2
            simp only [if_neg hc, if_true]
            rw [graphOf_f hk hT (by omega), Option.bind_some, number_f hk hT hS2, Option.bind_some, if_pos b1, if_pos (by show num G S < ((lasting G).length : Int); omega)]
            by_cases hb : (lasting G).getD (num G S).toNat false = true
            · rw [if_pos hb]
              refine (if_pos hb).trans ?_
              exact impl_kept hk hT (by omega) hl hall l.length 0 k S hS2 (by omega) (by omega) (by omega)
            · rw [if_neg hb]; exact if_neg hb
        · rw [if_neg hT]
          have : isT G = false := by simpa using hT
          rw [this]
          rfl
      · have hch : ¬ (stB G S = true ∧ chsOK G l = true) := fun x => hall (by have := x.2; unfold chsOK at this; rw [Bool.and_eq_true] at this; exact this.1)
        have hf : l.all (chB G) = false := by simpa using hall
        rw [hf, hst0, Option.bind_some, if_neg hne, hno hch]
    · have hch : ¬ (stB G S = true ∧ chsOK G l = true) := fun x => h120 (by have := x.2; unfold chsOK at this; rw [Bool.and_eq_true] at this; exact of_decide_eq_true this.2)
      rw [if_neg h120, hst0, Option.bind_some, if_neg hne, hno hch]
  · have hch : ¬ (stB G S = true ∧ chsOK G l = true) := fun x => hst x.1
    rw [if_neg hst, hst0, Option.bind_some, if_neg hne, hno hch]

end Go.Proofs.Ytcbhhbkghbnljaa.Vf
