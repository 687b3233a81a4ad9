/- Bits under addition, in plain words. No condition. -/
import Derived.Test.YtemoagpahhdoeaaL0
namespace Go.Proofs.Ytemoagpahhdoeaa
open Go.Sy
set_option linter.unusedSimpArgs false
set_option linter.unusedVariables false
set_option maxRecDepth 100000

theorem bt_low (a b : Nat) {j k : Nat} (h : j < k) : bt (a * 2 ^ k + b) j = bt b j := by
  unfold bt
  obtain ⟨d, rfl⟩ : ∃ d, k = j + d + 1 := ⟨k - j - 1, by omega⟩
  have e : a * 2 ^ (j + d + 1) = 2 ^ j * (2 * (a * 2 ^ d)) := by
    rw [Nat.pow_succ, Nat.pow_add]
    ac_rfl
  rw [e, Nat.mul_add_div (Nat.two_pow_pos j)]
  omega
theorem bt_high (a b : Nat) {k : Nat} (hb : b < 2 ^ k) (j : Nat) : bt (a * 2 ^ k + b) (k + j) = bt a j := by
  unfold bt
  rw [Nat.pow_add, ← Nat.div_div_eq_div_mul, Nat.mul_comm a, Nat.mul_add_div (Nat.two_pow_pos k), Nat.div_eq_of_lt hb, Nat.add_zero]
theorem bt_zero {b k : Nat} (h : b < 2 ^ k) : bt b k = 0 := by
  unfold bt
  rw [Nat.div_eq_of_lt h]
theorem bt_zero' {b k j : Nat} (h : b < 2 ^ k) (hj : k ≤ j) : bt b j = 0 :=
  bt_zero (Nat.lt_of_lt_of_le h (Nat.pow_le_pow_right (by omega) hj))
def cy (n m i : Nat) : Nat := (n % 2 ^ i + m % 2 ^ i) / 2 ^ i
theorem cy_le (n m i : Nat) : cy n m i ≤ 1 := by
  unfold cy
  have hp := Nat.two_pow_pos i
  have h1 := Nat.mod_lt n hp
  have h2 := Nat.mod_lt m hp
  have : (n % 2 ^ i + m % 2 ^ i) / 2 ^ i < 2 := by
    rw [Nat.div_lt_iff_lt_mul hp]
    omega
  omega
theorem cy_step (n m i : Nat) : bt (n + m) i = (bt n i + bt m i + cy n m i) % 2 ∧ cy n m (i + 1) = (bt n i + bt m i + cy n m i) / 2 := by
  have hp := Nat.two_pow_pos i
  have e1 := Nat.div_add_mod n (2 ^ i)
  have e2 := Nat.div_add_mod m (2 ^ i)
  have hsum : (n + m) / 2 ^ i = n / 2 ^ i + m / 2 ^ i + cy n m i := by
    have : n + m = 2 ^ i * (n / 2 ^ i + m / 2 ^ i) + (n % 2 ^ i + m % 2 ^ i) := by rw [Nat.mul_add]; omega
    rw [this, Nat.mul_add_div hp]
    rfl
  constructor
  · unfold bt
    rw [hsum]
    omega
  · have k1 : n % 2 ^ (i + 1) = n % 2 ^ i + 2 ^ i * (n / 2 ^ i % 2) := by rw [Nat.pow_succ, Nat.mod_mul]
    have k2 : m % 2 ^ (i + 1) = m % 2 ^ i + 2 ^ i * (m / 2 ^ i % 2) := by rw [Nat.pow_succ, Nat.mod_mul]
    have k3 : n % 2 ^ (i + 1) + m % 2 ^ (i + 1) = 2 ^ i * (bt n i + bt m i) + (n % 2 ^ i + m % 2 ^ i) := by
      rw [k1, k2, Nat.mul_add]
      unfold bt
      omega
    unfold cy
    rw [k3, Nat.pow_succ, ← Nat.div_div_eq_div_mul, Nat.mul_add_div hp]
theorem cy_up (n m up : Nat) : cy n (m * 2 ^ up) up = 0 := by
  unfold cy
  rw [Nat.mul_mod_left, Nat.add_zero]
  exact Nat.div_eq_of_lt (Nat.mod_lt _ (Nat.two_pow_pos up))
theorem bt_shift (m up k : Nat) : bt (m * 2 ^ up) (up + k) = bt m k := by
  have := bt_high m 0 (Nat.two_pow_pos up) k
  rwa [Nat.add_zero] at this

/-! ### Machine numbers -/
theorem ishr_nat (x : Nat) {i : Nat} (hi : i ≤ 64) : ishr .u64 (x : Int) (i : Int) = ((x / 2 ^ i : Nat) : Int) := by
  unfold ishr
  simp only [IntKind.bits, Int.toNat_natCast, Nat.min_eq_left hi]
  have : (2 : Int) ^ i = ((2 ^ i : Nat) : Int) := by simp
  rw [this, Int.fdiv_eq_ediv_of_nonneg _ (Int.natCast_nonneg _)]
  simp
theorem iand_one (x : Nat) (hx : x < 18446744073709551616) : iand .u64 (x : Int) 1 = ((x % 2 : Nat) : Int) := by
  unfold iand
  have e : (BitVec.ofInt 64 (x : Int) &&& BitVec.ofInt 64 1).toNat = x % 2 := by
    rw [BitVec.toNat_and, BitVec.toNat_ofInt, BitVec.toNat_ofInt]
    have h1 : ((x : Int) % ((2 ^ 64 : Nat) : Int)).toNat = x := by omega
    have h2 : ((1 : Int) % ((2 ^ 64 : Nat) : Int)).toNat = 1 := by decide
    rw [h1, h2, Nat.and_one_is_mod]
  show IntKind.wrap .u64 ((BitVec.ofInt 64 (x : Int) &&& BitVec.ofInt 64 1).toNat : Int) = _
  rw [e]
  unfold IntKind.wrap
  simp only [IntKind.bits, IntKind.signed]
  simp
  omega
theorem bit_of (x : Nat) (hx : x < 18446744073709551616) {i : Nat} (hi : i ≤ 64) : iconv .i64 (iand .u64 (ishr .u64 (x : Int) (i : Int)) 1) = (bt x i : Nat) := by
  have hd : x / 2 ^ i ≤ x := Nat.div_le_self _ _
  rw [ishr_nat x hi, iand_one _ (by omega)]
  have := bt_lt x i
  unfold bt at *
  unfold iconv IntKind.wrap
  simp only [IntKind.bits, IntKind.signed]
  simp
  omega
theorem pow_lt64 {i : Nat} (hi : i < 64) : 2 ^ i ≤ 9223372036854775808 := by
  have : 2 ^ i ≤ 2 ^ 63 := Nat.pow_le_pow_right (by omega) (by omega)
  omega
theorem or_bit (lo b : Nat) {i : Nat} (hi : i < 64) (hl : lo < 2 ^ i) (hb : b < 2) : ior .u64 (lo : Int) (ishl .u64 (iconv .u64 (b : Int)) (i : Int)) = ((lo + b * 2 ^ i : Nat) : Int) := by
  have hp := pow_lt64 hi
  have e0 : iconv .u64 (b : Int) = (b : Int) := by
    unfold iconv IntKind.wrap
    simp only [IntKind.bits, IntKind.signed]
    simp
    omega
  have hbp : b * 2 ^ i ≤ 2 ^ i := by
    have : b * 2 ^ i ≤ 1 * 2 ^ i := Nat.mul_le_mul_right _ (by omega)
    omega
  have e1 : ishl .u64 (b : Int) (i : Int) = ((b * 2 ^ i : Nat) : Int) := by
    unfold ishl
    have h3 : (b : Int) * 2 ^ (min ((i : Int)).toNat (IntKind.bits .u64)) = ((b * 2 ^ i : Nat) : Int) := by
      have : min ((i : Int)).toNat (IntKind.bits .u64) = i := by
        simp only [IntKind.bits, Int.toNat_natCast]
        omega
      rw [this]
      simp
    rw [h3]
    generalize b * 2 ^ i = y at *
    unfold IntKind.wrap
    simp only [IntKind.bits, IntKind.signed]
    simp
    omega
  rw [e0, e1]
  unfold ior
  have e : (BitVec.ofInt 64 (lo : Int) ||| BitVec.ofInt 64 ((b * 2 ^ i : Nat) : Int)).toNat = lo + b * 2 ^ i := by
    rw [BitVec.toNat_or, BitVec.toNat_ofInt, BitVec.toNat_ofInt]
    have h1 : ((lo : Int) % ((2 ^ 64 : Nat) : Int)).toNat = lo := by omega
    have h2 : (((b * 2 ^ i : Nat) : Int) % ((2 ^ 64 : Nat) : Int)).toNat = b * 2 ^ i := by
      generalize b * 2 ^ i = y at *
      omega
    rw [h1, h2, Nat.or_comm, Nat.mul_comm b, ← Nat.two_pow_add_eq_or_of_lt hl]
    omega
  show IntKind.wrap .u64 ((BitVec.ofInt 64 (lo : Int) ||| BitVec.ofInt 64 ((b * 2 ^ i : Nat) : Int)).toNat : Int) = _
  rw [e]
  generalize b * 2 ^ i = y at *
  unfold IntKind.wrap
  simp only [IntKind.bits, IntKind.signed]
  simp
  omega
theorem mod_step (n i : Nat) : n % 2 ^ (i + 1) = n % 2 ^ i + bt n i * 2 ^ i := by
  rw [Nat.pow_succ, Nat.mod_mul]
  unfold bt
  rw [Nat.mul_comm (2 ^ i)]
end Go.Proofs.Ytemoagpahhdoeaa
