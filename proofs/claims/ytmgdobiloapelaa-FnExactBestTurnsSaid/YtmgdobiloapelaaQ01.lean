/- The laws' own helpers; tasks. -/
import Derived.Test.YtmgdobiloapelaaQBase
set_option linter.unusedVariables false
set_option linter.unusedSimpArgs false
namespace Go.Proofs.Ytmgdobiloapelaa.Vf
open Go Go.V Go.RowKit

/-! ### Copies, comparisons -/

theorem toInt64S_loop {k : Nat} {l : List Int} (hl : l.length ≤ 1048576) : ∀ (d i n : Nat), l.length - i = d → i ≤ l.length → d < n →
    laws_toInt64S.l0 k n l (l.take i ++ List.replicate (l.length - i) 0) i = some l := by
  intro d
  induction d with
  | zero =>
    intro i n hd hi hn
    obtain rfl : i = l.length := by omega
    cases n with
    | zero => omega
    | succ n =>
      simp only [laws_toInt64S.l0, laws_toInt64S.s0]
      rw [if_neg (by omega), List.take_length, Nat.sub_self, List.replicate_zero, List.append_nil]
  | succ d ih =>
    intro i n hd hi hn
    cases n with
    | zero => omega
    | succ n =>
      simp only [laws_toInt64S.l0, laws_toInt64S.s0]
      rw [if_pos (by omega), if_pos (by omega), if_pos (by omega), if_pos (by omega), if_pos (by simp; omega), Int.toNat_natCast, set_step l i (by omega), w64n (by omega)]
      exact ih (i + 1) n (by omega) (by omega) (by omega)

theorem toInt64S_f {k : Nat} {l : List Int} (hk : 2097152 ≤ k) (hl : l.length ≤ 1048576) : laws_toInt64S.f k l = some l := by
  unfold laws_toInt64S.f laws_toInt64S.g
  rw [if_pos (by omega), if_pos (by omega), if_pos (by omega)]
  have := toInt64S_loop (k := k) hl l.length 0 k (by omega) (by omega) (by omega)
  simpa using this

theorem eqInt64S_loop {k : Nat} {a b : List Int} (hl : a.length ≤ 1048576) (hab : a.length = b.length) : ∀ (d i n : Nat), a.length - i = d → i ≤ a.length → d < n →
    laws_eqInt64S.l0 k n a b i = some (decide (a.drop i = b.drop i)) := by
  intro d
  induction d with
  | zero =>
    intro i n hd hi hn
    obtain rfl : i = a.length := by omega
    cases n with
    | zero => omega
    | succ n =>
      simp only [laws_eqInt64S.l0, laws_eqInt64S.s0]
      rw [if_neg (by omega), List.drop_length, hab, List.drop_length]
      simp
  | succ d ih =>
    intro i n hd hi hn
    cases n with
    | zero => omega
    | succ n =>
      simp only [laws_eqInt64S.l0, laws_eqInt64S.s0]
      rw [if_pos (by omega), if_pos (by omega), if_pos (by omega), if_pos (by omega), if_pos (by omega), drop_cons (l := a) (by omega), drop_cons (l := b) (by omega)]
      by_cases e : rd a i = rd b i
      · rw [if_pos e, w64n (by omega), ih (i + 1) n (by omega) (by omega) (by omega), e]
        simp
      · rw [if_neg e]
        simp [e]

theorem eqInt64S_f {k : Nat} {a b : List Int} (hk : 2097152 ≤ k) (hl : a.length ≤ 1048576) : laws_eqInt64S.f k a b = some (decide (a = b)) := by
  unfold laws_eqInt64S.f laws_eqInt64S.g
  by_cases e : a.length = b.length
  · rw [if_pos (by omega)]
    have := eqInt64S_loop (k := k) (a := a) (b := b) hl e a.length 0 k (by omega) (by omega) (by omega)
    simpa using this
  · rw [if_neg (by omega)]
    congr 1
    symm
    rw [decide_eq_false_iff_not]
    rintro rfl
    exact e rfl

/-! ### Tasks -/

theorem l01In_f (a b c : Int) : spec_l01In.f a b c = some (decide (b ≤ a ∧ a ≤ c)) := by
  unfold spec_l01In.f
  by_cases h : b ≤ a <;> simp [h]
theorem within_f (a b c : Int) : impl_within.f a b c = some (decide (b ≤ a ∧ a ≤ c)) := by
  unfold impl_within.f
  by_cases h : b ≤ a <;> simp [h]
theorem length_f (l : List Int) : impl_length_int64.f l = some (l.length : Int) := rfl
def gapB (g : Int) : Bool := decide (1 ≤ g ∧ g ≤ 40)
/-- Tasks. -/
def isT (l : List Int) : Bool := decide (1 ≤ l.length ∧ l.length ≤ 8) && l.all gapB

theorem isT_iff {l : List Int} : isT l = true ↔ (1 ≤ l.length ∧ l.length ≤ 8) ∧ ∀ g ∈ l, 1 ≤ g ∧ g ≤ 40 := by
  unfold isT gapB
  simp [List.all_eq_true]

end Go.Proofs.Ytmgdobiloapelaa.Vf
