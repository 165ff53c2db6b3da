/- Marks and what is held of them. -/
import Derived.Test.YtmgdobiloapelaaQ01
set_option linter.unusedVariables false
set_option linter.unusedSimpArgs false
namespace Go.Proofs.Ytmgdobiloapelaa.Vf
open Go Go.V Go.RowKit

/-- Numbers upwards. -/
def upF : Int → Nat → List Int
  | _, 0 => []
  | a, n + 1 => a :: upF (a + 1) n

theorem upF_len : ∀ (n : Nat) (a : Int), (upF a n).length = n
  | 0, _ => rfl
  | n + 1, a => by simp [upF, upF_len n]

theorem mark_loop {k : Nat} : ∀ (rest pre : List Int) (a : Int) (n : Nat), pre.length + rest.length ≤ 1048576 → 0 ≤ a → a + rest.length ≤ 1099511627776 → rest.length < n →
    laws_markInt64S.l0 k n (pre ++ rest) a (pre.length : Int) = some (a + rest.length, pre ++ upF a rest.length)
  | [], pre, a, 0, _, _, _, h => by simp at h
  | [], pre, a, n + 1, h1, h2, h3, h4 => by
    simp only [laws_markInt64S.l0, laws_markInt64S.s0]
    rw [if_neg (by simp)]
    simp [upF]
  | x :: r, pre, a, 0, _, _, _, h => by simp at h
  | x :: r, pre, a, n + 1, h1, h2, h3, h4 => by
    simp only [List.length_cons] at h1 h3 h4
    simp only [laws_markInt64S.l0, laws_markInt64S.s0]
    rw [if_pos (by simp; omega), if_pos (by omega), if_pos (by simp; omega), Int.toNat_natCast, w64 (by omega) (by omega), w64n (by omega), List.set_append_right _ _ (Nat.le_refl _), Nat.sub_self, List.set_cons_zero]
    have := mark_loop (k := k) r (pre ++ [a]) (a + 1) n (by simp; omega) (by omega) (by omega) (by omega)
    rw [List.append_assoc, show (pre ++ [a]).length = pre.length + 1 by simp] at this
    refine Eq.trans this ?_
    simp [upF]
    omega

theorem markInt64S_f {k : Nat} {l : List Int} {a : Int} (hk : 2097152 ≤ k) (hl : l.length ≤ 1048576) (h0 : 0 ≤ a) (h1 : a ≤ 1048576000) : laws_markInt64S.f k l a = some (a + l.length, upF a l.length) := by
  unfold laws_markInt64S.f laws_markInt64S.g
  exact mark_loop l [] a k (by simpa using hl) h0 (by omega) (by omega)

theorem held_loop {k : Nat} : ∀ (m : Nat) (pre : List Int) (a : Int) (n : Nat), pre.length + m ≤ 1048576 → 0 ≤ a → a + m ≤ 1099511627776 → m < n →
    laws_heldInt64S.l0 k n (pre ++ upF a m) a (pre.length : Int) = some (a + m)
  | _, pre, a, 0, _, _, _, h => by omega
  | 0, pre, a, n + 1, h1, h2, h3, h4 => by
    simp only [laws_heldInt64S.l0, laws_heldInt64S.s0]
    rw [if_neg (by simp [upF])]
    simp
  | m + 1, pre, a, n + 1, h1, h2, h3, h4 => by
    have e : rd (pre ++ upF a (m + 1)) (pre.length : Int) = a := by
      rw [rd_nat]; simp [upF]
    simp only [laws_heldInt64S.l0, laws_heldInt64S.s0]
    rw [if_pos (by simp [upF_len]; omega), if_pos (by omega), if_pos (by simp [upF_len]; omega), if_pos e, w64 (by omega) (by omega), w64n (by omega)]
    have := held_loop (k := k) m (pre ++ [a]) (a + 1) n (by simp; omega) (by omega) (by omega) (by omega)
    rw [List.append_assoc, show (pre ++ [a]).length = pre.length + 1 by simp] at this
    refine Eq.trans this ?_
    simp
    omega

theorem heldInt64S_f {k : Nat} {m : Nat} {a : Int} (hk : 2097152 ≤ k) (hl : m ≤ 1048576) (h0 : 0 ≤ a) (h1 : a ≤ 1048576000) : laws_heldInt64S.f k (upF a m) a = some (a + m) := by
  unfold laws_heldInt64S.f laws_heldInt64S.g
  exact held_loop m [] a k (by simpa using hl) h0 (by omega) (by omega)

end Go.Proofs.Ytmgdobiloapelaa.Vf
