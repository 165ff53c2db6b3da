/- States: what keeps lasts, and steps lead to states. -/
import Derived.Test.YtcbhhbkghbnljaaQDraw3
set_option linter.unusedVariables false
set_option linter.unusedSimpArgs false
namespace Go.Proofs.Ytcbhhbkghbnljaa.Vf
open Go Go.V Go.RowKit

theorem likeInts_self {k : Nat} (hk : 2097152 ≤ k) {l : List Int} (hl : l.length ≤ 1048576) : laws_likeInts.f k l l = some true := by
  have key : ∀ (d i n : Nat), l.length - i = d → i ≤ l.length → d < n → laws_likeInts.l0 k n l l i = some true := by
    intro d
    induction d with
    | zero =>
      intro i n hd hi hn
      cases n with
      | zero => omega
      | succ n =>
        simp only [laws_likeInts.l0, laws_likeInts.s0]
        rw [if_neg (by omega)]
    | succ d ih =>
      intro i n hd hi hn
      cases n with
      | zero => omega
      | succ n =>
        simp only [laws_likeInts.l0, laws_likeInts.s0]
        rw [w64n (by omega), if_pos (by omega), if_pos (by omega), if_pos (by omega), if_pos (by omega), if_pos (by omega), if_pos trivial]
        exact ih (i + 1) n (by omega) (by omega) (by omega)
  unfold laws_likeInts.f laws_likeInts.g
  rw [if_pos rfl]
  exact key l.length 0 k (by omega) (by omega) (by omega)

def countStR (G : List Int) : Int × Int := if isT G = true then (cnt G, 0) else (0, 1)

def stepS (G S : List Int) (c : Int) : List Int × Int := match step G S c with
  | some T => (T, 0)
  | none => ([], 4)
def stepStR (G S : List Int) (c : Int) : List Int × Int := if isT G = true then (if stB G S = true then (if chB G c = true then stepS G S c else ([], 2)) else ([], 2)) else ([], 1)

theorem stepR_sel {β : Type} (G S : List Int) (c : Int) : (if (stepR [] (step G S c)).2 = true then some ((stepR [] (step G S c)).1, (0 : Int)) else some ([], 4)) = some (stepS G S c) := by
  unfold stepS
  cases step G S c with
  | none => rfl
  | some T => rfl

/-! ### What is asked of them -/

theorem stt_le : ∀ {G S : List Int}, Stt G S → LeL S G
  | [], [], _ => trivial
  | g :: G, s :: S, h => ⟨h.1.2, stt_le h.2⟩
  | [], _ :: _, h => h.elim
  | _ :: _, [], h => h.elim

/-- Where one state lasts, the full one does. -/
theorem can_any {G S : List Int} (h : isT G = true) (hc : cnt G ≤ 4000) (hS : Stt G S) (hl : (lasting G).getD (num G S).toNat false = true) : canB G = true := by
  have hG := isT_gp h
  have hp := cnt_pos hG
  have key := lasting_sup h hc (X := fun v => (v : Int) < cnt G ∧ ∃ S, Stt G S ∧ (lasting G).getD (num G S).toNat false = true ∧ LeL S (ofN G (v : Int))) (fun v hv => hv.1) (by
    rintro v ⟨hv, S, hS, hSl, hle⟩
    obtain ⟨b1, b2⟩ := num_bnd hG hS
    obtain ⟨c, T, hk, hr, hs, hT, n1, n2, hTl, _⟩ := keep_next h hc b1 b2 hSl
    rw [ofN_num hG hS] at hs
    obtain ⟨T', hs', hTT⟩ := stepA_wide LeL.rfl' hle hs
    have hT' := step_st hG (ofN_st (v : Int) hG) hs'
    obtain ⟨m1, m2⟩ := num_bnd hG hT'
    have hcm : c ∈ chs G.length := by
      have hm : c ∈ keep G (lasting G) (num G S) := by
        rw [← hr]
        exact rd_mem (l := keep G (lasting G) (num G S)) (i := 0) hk
      exact (List.mem_filter.1 hm).1
    refine ⟨c, T', hcm, hs', by omega, T, hT, hTl, ?_⟩
    rw [show (((num G T').toNat : Nat) : Int) = num G T' by omega, ofN_num hG hT']
    exact hTT)
  unfold canB
  refine key _ ⟨by omega, S, hS, hl, ?_⟩
  rw [show (((cnt G - 1).toNat : Nat) : Int) = cnt G - 1 by omega, ofN_full h]
  exact stt_le hS

theorem trues_pos {L : List Bool} : 0 < trues L ↔ ∃ v, v < L.length ∧ L.getD v false = true := by
  unfold trues
  rw [List.length_pos_iff_exists_mem]
  constructor
  · rintro ⟨b, hb⟩
    obtain ⟨h1, h2⟩ := List.mem_filter.1 hb
    obtain ⟨v, hv, e⟩ := List.getElem_of_mem h1
    refine ⟨v, hv, ?_⟩
    rw [List.getD_eq_getElem?_getD, List.getElem?_eq_getElem hv, Option.getD_some, e]
    simpa using h2
  · rintro ⟨v, hv, e⟩
    rw [List.getD_eq_getElem?_getD, List.getElem?_eq_getElem hv, Option.getD_some] at e
    exact ⟨true, List.mem_filter.2 ⟨by rw [← e]; exact List.getElem_mem hv, by simp⟩⟩

theorem can_count {G : List Int} (h : isT G = true) (hc : cnt G ≤ 4000) : canB G = decide ((0 : Int) < (trues (lasting G) : Nat)) := by
  have hG := isT_gp h
  have hp := cnt_pos hG
  have hlen := lasting_len h hc
  rw [Bool.eq_iff_iff, decide_eq_true_eq]
  constructor
  · intro hb
    have := trues_pos.2 ⟨(cnt G - 1).toNat, by omega, hb⟩
    omega
  · intro hb
    obtain ⟨v, hv, e⟩ := trues_pos.1 (show 0 < trues (lasting G) by omega)
    refine can_any h hc (ofN_st (v : Int) hG) ?_
    rw [num_ofN hG (by omega) (by omega)]
    simpa using e

theorem stepA_at {c : Int} : ∀ {j : Int} {G S T : List Int}, stepA c j G S = some T → S.length = G.length → ∀ i : Nat, i < T.length → j + i ≠ c → rd T i = rd S i - 1
  | j, [], S, T, h, _, i, hi, _ => by simp [stepA] at h; subst h; simp at hi
  | j, g :: G, [], T, h, hl, i, hi, _ => by simp at hl
  | j, g :: G, s :: S, T, h, hl, i, hi, hne => by
    simp only [stepA] at h
    have cons : ∀ (a : Int) (l : List Int) (i : Nat), rd (a :: l) ((i + 1 : Nat) : Int) = rd l (i : Int) := fun a l i => by rw [rd_nat, rd_nat]; rfl
    by_cases e : j = c
    · rw [if_pos e] at h
      obtain ⟨T1, h1, rfl⟩ := Option.map_eq_some_iff.1 h
      cases i with
      | zero => exact absurd (by simpa using e) hne
      | succ i =>
        rw [cons, cons]
        exact stepA_at h1 (by simpa using hl) i (by simpa using hi) (fun e' => hne (by rw [← e']; push_cast; omega))
    · rw [if_neg e] at h
      by_cases e2 : s < 2
      · rw [if_pos e2] at h; cases h
      · rw [if_neg e2] at h
        obtain ⟨T1, h1, rfl⟩ := Option.map_eq_some_iff.1 h
        cases i with
        | zero => rfl
        | succ i =>
          rw [cons, cons]
          exact stepA_at h1 (by simpa using hl) i (by simpa using hi) (fun e' => hne (by rw [← e']; push_cast; omega))

end Go.Proofs.Ytcbhhbkghbnljaa.Vf
