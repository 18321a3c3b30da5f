/- Numbers: words of bits that are small naturals; lemmas over any program. -/
import Derived.Test.YtcljmlgbmjjldaaVC
import Derived.Laws.BitsLemmas
namespace Go.VC
open Go
set_option linter.unusedVariables false
set_option linter.unusedSimpArgs false

theorem w64 {n : Int} (h0 : -9223372036854775808 ≤ n) (h1 : n < 9223372036854775808) : IntKind.wrap .i64 n = n := by
  rw [IntKind.wrap_i64]; omega
theorem w64n {n : Nat} (h1 : n < 9223372036854775808) : IntKind.wrap .i64 (n : Int) = n := w64 (by omega) (by omega)
theorem w64s {n : Nat} (h1 : n < 9223372036854775807) : IntKind.wrap .i64 ((n : Int) + 1) = ((n + 1 : Nat) : Int) := by rw [w64 (by omega) (by omega)]; rfl
theorem w64p {n : Nat} (h0 : 0 < n) (h1 : n < 9223372036854775807) : IntKind.wrap .i64 ((n : Int) - 1) = ((n - 1 : Nat) : Int) := by rw [w64 (by omega) (by omega)]; omega
theorem ofInt_nat (n a : Nat) : BitVec.ofInt n (a : Int) = BitVec.ofNat n a := by simp
theorem andI_nat {a b : Nat} (ha : a < 9223372036854775808) (hb : b < 9223372036854775808) : andI .i64 (a : Int) (b : Int) = ((a &&& b : Nat) : Int) := by
  have hle : a &&& b ≤ a := Nat.and_le_left
  have e : (BitVec.ofInt (IntKind.bits .i64) (a : Int) &&& BitVec.ofInt (IntKind.bits .i64) (b : Int)).toNat = a &&& b := by
    show (BitVec.ofInt 64 (a : Int) &&& BitVec.ofInt 64 (b : Int)).toNat = a &&& b
    rw [ofInt_nat, ofInt_nat, BitVec.toNat_and, BitVec.toNat_ofNat, BitVec.toNat_ofNat, Nat.mod_eq_of_lt (by omega), Nat.mod_eq_of_lt (by omega)]
  unfold andI
  rw [e]
  exact w64n (by omega)
theorem orI_nat {a b : Nat} (ha : a < 9223372036854775808) (hb : b < 9223372036854775808) : orI .i64 (a : Int) (b : Int) = ((a ||| b : Nat) : Int) := by
  have hle : a ||| b < 2 ^ 63 := Nat.or_lt_two_pow ha hb
  have e : (BitVec.ofInt (IntKind.bits .i64) (a : Int) ||| BitVec.ofInt (IntKind.bits .i64) (b : Int)).toNat = a ||| b := by
    show (BitVec.ofInt 64 (a : Int) ||| BitVec.ofInt 64 (b : Int)).toNat = a ||| b
    rw [ofInt_nat, ofInt_nat, BitVec.toNat_or, BitVec.toNat_ofNat, BitVec.toNat_ofNat, Nat.mod_eq_of_lt (by omega), Nat.mod_eq_of_lt (by omega)]
  unfold orI
  rw [e]
  exact w64n hle
theorem testBit_lt {a i : Nat} (h : a < 2 ^ i) : a.testBit i = false := Nat.testBit_lt_two_pow h
/-- a &^ b -/
theorem andNotI_nat {a b : Nat} (ha : a < 9223372036854775808) (hb : b < 9223372036854775808) : andNotI .i64 (a : Int) (b : Int) = ((a ^^^ (a &&& b) : Nat) : Int) := by
  have hle : a &&& b < 2 ^ 63 := Nat.lt_of_le_of_lt Nat.and_le_left ha
  have hx : a ^^^ (a &&& b) < 2 ^ 63 := Nat.xor_lt_two_pow ha hle
  have e : (BitVec.ofInt (IntKind.bits .i64) (a : Int) &&& ~~~ BitVec.ofInt (IntKind.bits .i64) (b : Int)).toNat = a ^^^ (a &&& b) := by
    show (BitVec.ofInt 64 (a : Int) &&& ~~~ BitVec.ofInt 64 (b : Int)).toNat = a ^^^ (a &&& b)
    have : BitVec.ofInt 64 (a : Int) &&& ~~~ BitVec.ofInt 64 (b : Int) = BitVec.ofNat 64 (a ^^^ (a &&& b)) := by
      rw [ofInt_nat, ofInt_nat]
      apply BitVec.eq_of_getLsbD_eq
      intro i hi
      simp only [BitVec.getLsbD_and, BitVec.getLsbD_not, BitVec.getLsbD_ofNat, Nat.testBit_xor, Nat.testBit_and, hi, decide_true, Bool.true_and]
      cases a.testBit i <;> cases b.testBit i <;> rfl
    rw [this, BitVec.toNat_ofNat, Nat.mod_eq_of_lt (by omega)]
  unfold andNotI
  rw [e]
  exact w64n hx
/-- the low bits -/
theorem andI_mask {a k : Nat} (ha : a < 9223372036854775808) (hk : k < 63) : andI .i64 (a : Int) (IntKind.wrap .i64 (((2 ^ k : Nat) : Int) - 1)) = ((a % 2 ^ k : Nat) : Int) := by
  have h1 : 2 ^ k ≤ 2 ^ 62 := Nat.pow_le_pow_right (by omega) (by omega)
  have h0 : 0 < 2 ^ k := Nat.two_pow_pos k
  rw [w64p h0 (by omega), andI_nat ha (by omega), Nat.and_two_pow_sub_one_eq_mod]
theorem shr1 {a : Nat} (ha : a < 9223372036854775808) : Int.fdiv (a : Int) (2 ^ (min (Int.toNat 1) (IntKind.bits .i64))) = ((a / 2 : Nat) : Int) := by
  show Int.fdiv (a : Int) 2 = _
  rw [Int.fdiv_eq_ediv_of_nonneg _ (by omega)]; omega
theorem toNatN (n : Nat) : (Int.toNat (n : Int)) = n := by omega
theorem beq0 {n : Nat} : (((n : Int) == 0) = true) ↔ n = 0 := by simp
theorem beq0' {n : Nat} : (((n : Int) == 0) = false) ↔ n ≠ 0 := by simp
end Go.VC
