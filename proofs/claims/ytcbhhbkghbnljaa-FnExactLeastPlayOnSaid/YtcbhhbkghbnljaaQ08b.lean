/- Bits of small numbers. -/
import Derived.Test.YtcbhhbkghbnljaaQMark
import Derived.Test.YtcbhhbkghbnljaaQ02
set_option linter.unusedVariables false
set_option linter.unusedSimpArgs false
namespace Go.Proofs.Ytcbhhbkghbnljaa.Vf
open Go Go.V Go.RowKit

theorem ofInt_nat (a : Nat) : BitVec.ofInt 64 (a : Int) = BitVec.ofNat 64 a := by
  apply BitVec.eq_of_toNat_eq
  simp

theorem andV_nat {a b : Nat} (ha : a < 9223372036854775808) (hb : b < 9223372036854775808) : andV .i64 (a : Int) (b : Int) = ((a &&& b : Nat) : Int) := by
  have h : a &&& b ≤ a := Nat.and_le_left
  rw [andV_eq]
  show wrap64 (((BitVec.ofInt 64 (a : Int) &&& BitVec.ofInt 64 (b : Int)).toNat : Nat) : Int) = _
  rw [ofInt_nat, ofInt_nat, BitVec.toNat_and, BitVec.toNat_ofNat, BitVec.toNat_ofNat, Nat.mod_eq_of_lt (by omega), Nat.mod_eq_of_lt (by omega), w64 (by omega) (by omega)]

theorem orV_nat {a b : Nat} (ha : a < 256) (hb : b < 256) : orV .i64 (a : Int) (b : Int) = ((a ||| b : Nat) : Int) := by
  have h : a ||| b < 2 ^ 8 := Nat.or_lt_two_pow (by omega) (by omega)
  rw [orV_eq]
  show wrap64 (((BitVec.ofInt 64 (a : Int) ||| BitVec.ofInt 64 (b : Int)).toNat : Nat) : Int) = _
  rw [ofInt_nat, ofInt_nat, BitVec.toNat_or, BitVec.toNat_ofNat, BitVec.toNat_ofNat, Nat.mod_eq_of_lt (by omega), Nat.mod_eq_of_lt (by omega), w64 (by omega) (by omega)]

theorem pow_le8 {i : Nat} (h : i ≤ 8) : 1 ≤ 2 ^ i ∧ 2 ^ i ≤ 256 := ⟨Nat.one_le_two_pow, Nat.pow_le_pow_right (by omega) h⟩

theorem shlV_nat {i : Nat} (h : i ≤ 8) : shlV .i64 1 (i : Int) = ((2 ^ i : Nat) : Int) := by
  have := pow_le8 h
  rw [shlV_eq]
  show wrap64 (1 * 2 ^ min (i : Int).toNat 64) = _
  rw [Int.toNat_natCast, show min i 64 = i by omega, Int.one_mul, show ((2 : Int) ^ i) = ((2 ^ i : Nat) : Int) by simp, w64 (by omega) (by omega)]

theorem shrV_nat {x i : Nat} (h : i ≤ 8) : shrV .i64 (x : Int) (i : Int) = ((x >>> i : Nat) : Int) := by
  rw [shrV_eq]
  show Int.fdiv (x : Int) (2 ^ min (i : Int).toNat 64) = _
  rw [Int.toNat_natCast, show min i 64 = i by omega, show ((2 : Int) ^ i) = ((2 ^ i : Nat) : Int) by simp, Int.fdiv_eq_ediv_of_nonneg _ (Int.natCast_nonneg _), Nat.shiftRight_eq_div_pow]
  simp

theorem bit_nat {x i : Nat} (hx : x < 256) (h : i ≤ 8) : (andV .i64 (shrV .i64 (x : Int) (i : Int)) 1 = 1) ↔ x.testBit i = true := by
  have hs : x >>> i ≤ x := by rw [Nat.shiftRight_eq_div_pow]; exact Nat.div_le_self _ _
  rw [shrV_nat h]
  have := andV_nat (a := x >>> i) (b := 1) (by omega) (by omega)
  rw [show ((1 : Nat) : Int) = 1 from rfl] at this
  have e : x >>> i &&& 1 = (x >>> i) % 2 := Nat.and_one_is_mod _
  rw [this, e]
  unfold Nat.testBit
  rw [Nat.and_comm, e]
  generalize x >>> i = y
  have hy : y % 2 = 0 ∨ y % 2 = 1 := by omega
  rcases hy with hy | hy <;> rw [hy] <;> simp

theorem u64_nat {x : Nat} (h : x < 256) : IntKind.wrap .u64 (x : Int) = (x : Int) := by
  show (x : Int) % 18446744073709551616 = x
  omega

/-- How many bits. -/
def popc (x : Nat) : Nat := ((List.range 8).filter fun i => x.testBit i).length

theorem popc_step : ∀ x : Nat, x < 256 → 0 < x → popc (x &&& (x - 1)) + 1 = popc x ∧ x &&& (x - 1) < x := by decide +kernel

theorem size8_loop {k : Nat} : ∀ (x n : Nat) (c : Int), x < 256 → x < n → 0 ≤ c → c ≤ 1000 - x → spec_l08Size.l0 k n (x : Int) c = some (c + popc x)
  | x, 0, c, _, h, _, _ => by omega
  | x, n + 1, c, hx, hn, h0, h1 => by
    simp only [spec_l08Size.l0, spec_l08Size.s0]
    by_cases h : x = 0
    · subst h
      rw [if_neg (by omega)]
      have : popc 0 = 0 := by decide
      simp [this]
    · obtain ⟨p1, p2⟩ := popc_step x hx (by omega)
      have e : ((x : Int) - 1) = ((x - 1 : Nat) : Int) := by omega
      rw [if_pos (by omega), w64 (x := (x : Int) - 1) (by omega) (by omega), e, andV_nat (by omega) (by omega), w64 (by omega) (by omega)]
      have := size8_loop (k := k) (x &&& (x - 1)) n (c + 1) (by omega) (by omega) (by omega) (by omega)
      rw [this]
      congr 1
      omega

theorem size8_f {k x : Nat} (hk : 2097152 ≤ k) (hx : x < 256) : spec_l08Size.f k (x : Int) = some (popc x : Int) := by
  unfold spec_l08Size.f spec_l08Size.g
  have := size8_loop (k := k) x k 0 hx (by omega) (by omega) (by omega)
  rw [this]; simp

end Go.Proofs.Ytcbhhbkghbnljaa.Vf
