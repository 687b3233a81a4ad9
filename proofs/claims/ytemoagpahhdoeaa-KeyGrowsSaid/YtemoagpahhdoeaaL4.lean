/- The program's wide numbers are numbers: in plain words. No condition. -/
import Derived.Test.YtemoagpahhdoeaaL3
namespace Go.Proofs.Ytemoagpahhdoeaa
open Go.Sy
set_option linter.unusedSimpArgs false
set_option linter.unusedVariables false
set_option maxRecDepth 100000

theorem wrapu (n : Nat) : IntKind.wrap .u64 (n : Int) = ((n % p64 : Nat) : Int) := by
  unfold IntKind.wrap p64
  simp [IntKind.bits, IntKind.signed]
theorem iaddu (a b : Nat) : iadd .u64 (a : Int) (b : Int) = (((a + b) % p64 : Nat) : Int) := by
  unfold iadd
  rw [← wrapu]
  congr 1
theorem imulu (a b : Nat) : imul .u64 (a : Int) (b : Int) = (((a * b) % p64 : Nat) : Int) := by
  unfold imul
  rw [← wrapu]
  congr 1
theorem isubu {a b : Nat} (hb : b ≤ p64) : isub .u64 (a : Int) (b : Int) = (((a + (p64 - b)) % p64 : Nat) : Int) := by
  unfold isub IntKind.wrap p64 at *
  simp [IntKind.bits, IntKind.signed]
  omega
theorem lowu {x : Nat} (hx : x < p64) : lowW (x : Int) = ((x % 4294967296 : Nat) : Int) := by
  unfold lowW iand
  have e : (BitVec.ofInt 64 (x : Int) &&& BitVec.ofInt 64 4294967295).toNat = x % 4294967296 := by
    unfold p64 at hx
    rw [BitVec.toNat_and, BitVec.toNat_ofInt, BitVec.toNat_ofInt]
    have h1 : ((x : Int) % ((2 ^ 64 : Nat) : Int)).toNat = x := by omega
    have h2 : ((4294967295 : Int) % ((2 ^ 64 : Nat) : Int)).toNat = 2 ^ 32 - 1 := by decide
    rw [h1, h2, Nat.and_two_pow_sub_one_eq_mod]
  show IntKind.wrap .u64 ((BitVec.ofInt 64 (x : Int) &&& BitVec.ofInt 64 4294967295).toNat : Int) = _
  rw [e, wrapu]
  unfold p64
  omega
theorem highu (x : Nat) : highW (x : Int) = ((x / 4294967296 : Nat) : Int) := by
  unfold highW
  exact ishr_nat x (i := 32) (by omega)
theorem shl32 (x : Nat) : ishl .u64 (x : Int) 32 = ((x * 4294967296 % p64 : Nat) : Int) := by
  unfold ishl
  rw [← wrapu]
  congr 1
theorem or_low {h lo : Nat} (hh : h < 4294967296) (hl : lo < 4294967296) : ior .u64 ((h * 4294967296 : Nat) : Int) (lo : Int) = ((h * 4294967296 + lo : Nat) : Int) := by
  unfold ior
  have e : (BitVec.ofInt 64 ((h * 4294967296 : Nat) : Int) ||| BitVec.ofInt 64 (lo : Int)).toNat = h * 4294967296 + lo := by
    rw [BitVec.toNat_or, BitVec.toNat_ofInt, BitVec.toNat_ofInt]
    have h1 : ((lo : Int) % ((2 ^ 64 : Nat) : Int)).toNat = lo := by omega
    have h2 : (((h * 4294967296 : Nat) : Int) % ((2 ^ 64 : Nat) : Int)).toNat = 2 ^ 32 * h := by omega
    rw [h1, h2, ← Nat.two_pow_add_eq_or_of_lt (show lo < 2 ^ 32 by omega)]
    omega
  show IntKind.wrap .u64 ((BitVec.ofInt 64 ((h * 4294967296 : Nat) : Int) ||| BitVec.ofInt 64 (lo : Int)).toNat : Int) = _
  rw [e, wrapu]
  unfold p64
  omega
theorem ilt_nat (a b : Nat) : ilt (a : Int) (b : Int) = decide (a < b) := by
  unfold ilt
  rw [decide_eq_decide]
  omega
theorem addc_nat {x y z : Nat} (hx : x < p64) (hy : y < p64) (hz : z < p64) : ∃ s c : Nat, addS (x : Int) (y : Int) (z : Int) = (s : Int) ∧ addC (x : Int) (y : Int) (z : Int) = (c : Int) ∧ s < p64 ∧ x + y + z = s + p64 * c := by
  have e1 : iadd .u64 (iadd .u64 (x : Int) (y : Int)) (z : Int) = ((((x + y) % p64 + z) % p64 : Nat) : Int) := by rw [iaddu, iaddu]
  have k1 : iadd .u64 0 1 = ((1 : Nat) : Int) := by unfold iadd; decide
  have k2 : iadd .u64 (iadd .u64 0 1) 1 = ((2 : Nat) : Int) := by unfold iadd; decide
  refine ⟨((x + y) % p64 + z) % p64, (if ((x + y) % p64 + z) % p64 < z then (if (x + y) % p64 < x then 2 else 1) else (if (x + y) % p64 < x then 1 else 0)), by unfold addS; exact e1, ?_, ?_, ?_⟩
  · unfold addC
    rw [e1, iaddu x y, ilt_nat, ilt_nat, k2, k1]
    by_cases h1 : ((x + y) % p64 + z) % p64 < z <;> by_cases h2 : (x + y) % p64 < x <;> simp only [h1, h2, decide_true, decide_false, Bool.false_eq_true, if_true, if_false] <;> rfl
  · unfold p64 at *; omega
  · unfold p64 at *
    split <;> split <;> omega

theorem mul_eq {a b : Nat} (ha : a < p64) (hb : b < p64) : mulW (a : Int) (b : Int) = ofN (a * b) := by
  have al : a % 4294967296 < 4294967296 := Nat.mod_lt _ (by omega)
  have bl' : b % 4294967296 < 4294967296 := Nat.mod_lt _ (by omega)
  have ah : a / 4294967296 < 4294967296 := by unfold p64 at ha; omega
  have bh : b / 4294967296 < 4294967296 := by unfold p64 at hb; omega
  have hsplit : a * b = (a / 4294967296 * (b / 4294967296)) * p64 + (a / 4294967296 * (b % 4294967296) + a % 4294967296 * (b / 4294967296)) * 4294967296 + a % 4294967296 * (b % 4294967296) := by
    have e1 : a = a / 4294967296 * 4294967296 + a % 4294967296 := by omega
    have e2 : b = b / 4294967296 * 4294967296 + b % 4294967296 := by omega
    have e3 : p64 = 4294967296 * 4294967296 := by decide
    rw [e3]
    conv => lhs; rw [e1, e2]
    generalize a / 4294967296 = u
    generalize a % 4294967296 = v
    generalize b / 4294967296 = x
    generalize b % 4294967296 = y
    simp only [Nat.add_mul, Nat.mul_add, Nat.mul_assoc, Nat.mul_comm, Nat.mul_left_comm]
    omega
  have prod : ∀ u v : Nat, u < 4294967296 → v < 4294967296 → u * v ≤ 18446744065119617025 := fun u v hu hv => Nat.mul_le_mul (show u ≤ 4294967295 by omega) (show v ≤ 4294967295 by omega)
  have p0 := prod _ _ al bl'
  have p1 := prod _ _ ah bl'
  have p2 := prod _ _ al bh
  have p3 := prod _ _ ah bh
  have hab : a * b < p64 * p64 := Nat.mul_lt_mul_of_lt_of_le ha (Nat.le_of_lt hb) (by decide)
  unfold mulW mulM mulO
  simp only [lowu ha, lowu hb, highu, imulu]
  generalize a % 4294967296 * (b % 4294967296) = q0 at *
  generalize a / 4294967296 * (b % 4294967296) = q1 at *
  generalize a % 4294967296 * (b / 4294967296) = q2 at *
  generalize a / 4294967296 * (b / 4294967296) = q3 at *
  have m0 : q0 % p64 = q0 := Nat.mod_eq_of_lt (by unfold p64; omega)
  have m1 : q1 % p64 = q1 := Nat.mod_eq_of_lt (by unfold p64; omega)
  have m2 : q2 % p64 = q2 := Nat.mod_eq_of_lt (by unfold p64; omega)
  have m3 : q3 % p64 = q3 := Nat.mod_eq_of_lt (by unfold p64; omega)
  rw [m0, m1, m2, m3]
  obtain ⟨s, c, hs, hcc, hlt, hsum⟩ := addc_nat (x := q1) (y := q2) (z := q0 / 4294967296) (by unfold p64; omega) (by unfold p64; omega) (by unfold p64; omega)
  have hq0 : q0 < p64 := by unfold p64; omega
  rw [hs, hcc, highu, shl32, shl32, lowu hq0, iaddu, iaddu]
  have hsh : s * 4294967296 % p64 = s % 4294967296 * 4294967296 := by unfold p64; omega
  rw [hsh, or_low (Nat.mod_lt _ (by omega)) (Nat.mod_lt _ (by omega))]
  unfold ofN
  generalize a * b = N at *
  unfold p64 at *
  simp only [Wd.mk.injEq]
  constructor <;> omega
theorem add_eq {x y : Wd} (hx : WfW x) (hy : WfW y) : addW x y = ofN (nw x + nw y) := by
  obtain ⟨xl, xh, rfl, a1, a2, a3⟩ := wf_nat hx
  obtain ⟨yl, yh, rfl, b1, b2, b3⟩ := wf_nat hy
  rw [a3, b3]
  obtain ⟨s, c, h1, h2, h3, h4⟩ := addc_nat (x := xl) (y := yl) (z := 0) (by unfold p64; omega) (by unfold p64; omega) (by unfold p64; omega)
  unfold addW
  simp only
  rw [show (0 : Int) = ((0 : Nat) : Int) from rfl, h1, h2]
  have hc : c < p64 := by unfold p64 at *; omega
  obtain ⟨s', c', h5, h6, h7, h8⟩ := addc_nat (x := xh) (y := yh) (z := c) (by unfold p64; omega) (by unfold p64; omega) hc
  rw [h5]
  unfold ofN p64 at *
  simp only [Wd.mk.injEq]
  constructor <;> omega
theorem sub_eq {x y : Wd} (hx : WfW x) (hy : WfW y) : subW x y = ofN (nw x + (p64 * p64 - nw y)) := by
  obtain ⟨xl, xh, rfl, a1, a2, a3⟩ := wf_nat hx
  obtain ⟨yl, yh, rfl, b1, b2, b3⟩ := wf_nat hy
  rw [a3, b3]
  have q1 := isubu (a := xh) (b := yh) (by unfold p64; omega)
  have q2 := isubu (a := xl) (b := yl) (by unfold p64; omega)
  have q3 := isubu (a := (xh + (p64 - yh)) % p64) (b := 1) (by unfold p64; omega)
  unfold subW
  simp only
  rw [ilt_nat, q1, q2, show (1 : Int) = ((1 : Nat) : Int) from rfl, q3]
  unfold ofN p64 at *
  simp only [Wd.mk.injEq]
  by_cases h : xl < yl
  · simp only [h, decide_true, if_true]
    constructor <;> omega
  · simp only [h, decide_false, Bool.false_eq_true, if_false]
    constructor <;> omega
theorem cmp_eq {x y : Wd} (hx : WfW x) (hy : WfW y) : cmpW x y = cmpN (nw x) (nw y) := by
  obtain ⟨xl, xh, rfl, a1, a2, a3⟩ := wf_nat hx
  obtain ⟨yl, yh, rfl, b1, b2, b3⟩ := wf_nat hy
  rw [a3, b3]
  unfold cmpW weqB cmpN
  have ieqn : ∀ a b : Nat, ieq (a : Int) (b : Int) = decide (a = b) := fun a b => by
    unfold ieq
    rw [Bool.eq_iff_iff]
    simp only [beq_iff_eq, decide_eq_true_eq]
    omega
  simp only [ieqn, ilt_nat]
  by_cases h1 : xh = yh
  · by_cases h2 : xl = yl
    · simp [h1, h2]
    · by_cases h3 : xl < yl
      · have : xh * 2 ^ 64 + xl ≠ yh * 2 ^ 64 + yl := by omega
        have k : xh * 2 ^ 64 + xl < yh * 2 ^ 64 + yl := by omega
        rw [if_neg this, if_pos k]
        simp [h1, h2, h3]
      · have : xh * 2 ^ 64 + xl ≠ yh * 2 ^ 64 + yl := by omega
        have k : ¬ xh * 2 ^ 64 + xl < yh * 2 ^ 64 + yl := by omega
        rw [if_neg this, if_neg k]
        simp [h1, h2, h3]
  · have : xh * 2 ^ 64 + xl ≠ yh * 2 ^ 64 + yl := by omega
    rw [if_neg this]
    by_cases h3 : xh < yh
    · have k : xh * 2 ^ 64 + xl < yh * 2 ^ 64 + yl := by omega
      rw [if_pos k]
      simp [h1, h3]
    · have k : ¬ xh * 2 ^ 64 + xl < yh * 2 ^ 64 + yl := by omega
      rw [if_neg k]
      simp [h1, h3]

/-- A key's numbers fit the machine. -/
def i64B (x : Int) : Prop := -9223372036854775808 ≤ x ∧ x ≤ 9223372036854775807
def WfK (k : Key) : Prop := i64B k.x0 ∧ i64B k.x1 ∧ i64B k.y0 ∧ i64B k.y1
@[irreducible] def rwid (lo hi : Int) : Int := if ilt hi lo then 0 else if ilt lo 0 && ile 0 hi then iadd .u64 (iadd .u64 (iconv .u64 hi) (iconv .u64 (isub .i64 0 (iadd .i64 lo 1)))) 1 else iconv .u64 (isub .i64 hi lo)
theorem widthF_is {lo hi : Int} (hl : i64B lo) (hh : i64B hi) : widthF lo hi = if hi < lo then 0 else hi - lo := by
  unfold i64B at *
  unfold widthF ilt isub iconv IntKind.wrap
  simp [IntKind.bits, IntKind.signed]
  split
  · rfl
  · omega
theorem rwid_is {lo hi : Int} (hl : i64B lo) (hh : i64B hi) : rwid lo hi = if hi < lo then 0 else hi - lo := by
  unfold i64B at *
  unfold rwid ilt ile isub iadd iconv IntKind.wrap
  simp [IntKind.bits, IntKind.signed]
  split
  · rfl
  · split
    · split <;> omega
    · split <;> omega
theorem rwid_eq {lo hi : Int} (hl : i64B lo) (hh : i64B hi) : rwid lo hi = widthF lo hi := by rw [rwid_is hl hh, widthF_is hl hh]
theorem width_wf {lo hi : Int} (hl : i64B lo) (hh : i64B hi) : WfW ⟨0, widthF lo hi⟩ := by
  rw [widthF_is hl hh]
  unfold i64B at *
  constructor <;> simp only
  · omega
  · omega
  · split <;> omega
  · split <;> omega
theorem area_wf {k : Key} (h : WfK k) : WfW (areaW k) ∧ areaW k = ofN (nw ⟨0, widthF k.x0 k.x1⟩ * nw ⟨0, widthF k.y0 k.y1⟩) := by
  have h1 := width_wf h.1 h.2.1
  have h2 := width_wf h.2.2.1 h.2.2.2
  have e : areaW k = ofN (nw ⟨0, widthF k.x0 k.x1⟩ * nw ⟨0, widthF k.y0 k.y1⟩) := by
    obtain ⟨a, ha⟩ : ∃ a : Nat, widthF k.x0 k.x1 = a := ⟨_, (Int.toNat_of_nonneg h1.l0).symm⟩
    obtain ⟨b, hb⟩ : ∃ b : Nat, widthF k.y0 k.y1 = b := ⟨_, (Int.toNat_of_nonneg h2.l0).symm⟩
    have l1 := h1.l1
    have l2 := h2.l1
    simp only at l1 l2
    unfold areaW
    rw [ha, hb] at *
    rw [mul_eq (by unfold p64; omega) (by unfold p64; omega)]
    congr 1
    simp [nw]
  exact ⟨by rw [e]; exact ofN_wf _, e⟩
theorem margin_wf {k : Key} (h : WfK k) : WfW (marginW k) ∧ marginW k = ofN (nw ⟨0, widthF k.x0 k.x1⟩ + nw ⟨0, widthF k.y0 k.y1⟩) := by
  have e : marginW k = ofN (nw ⟨0, widthF k.x0 k.x1⟩ + nw ⟨0, widthF k.y0 k.y1⟩) := by
    unfold marginW
    exact add_eq (width_wf h.1 h.2.1) (width_wf h.2.2.1 h.2.2.2)
  exact ⟨by rw [e]; exact ofN_wf _, e⟩
theorem sub_wf {x y : Wd} (hx : WfW x) (hy : WfW y) : WfW (subW x y) := by rw [sub_eq hx hy]; exact ofN_wf _
end Go.Proofs.Ytemoagpahhdoeaa
