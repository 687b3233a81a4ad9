/- Numbers of 128 bits and their bits, in plain words. No condition. -/
import Derived.Test.YtemoagpahhdoeaaK1
namespace Go.Proofs.Ytemoagpahhdoeaa
open Go.Sy
set_option linter.unusedSimpArgs false
set_option linter.unusedVariables false
set_option maxRecDepth 100000

def b260 : Nat := 260
def vi' (n : Int) : Value := .int .i64 n
/-- A bit of a number. -/
def bt (n i : Nat) : Nat := n / 2 ^ i % 2
theorem bt_lt (n i : Nat) : bt n i < 2 := Nat.mod_lt _ (by omega)
/-- The bits of a number, the lowest first. -/
@[irreducible] def bl (n : Nat) : List Value := (List.range 260).map fun i => vi' (bt n i : Nat)
theorem bl_len (n : Nat) : (bl n).length = 260 := by simp [bl]
theorem bl_get (n : Nat) {i : Nat} (h : i < 260) : (bl n)[i]? = some (vi' (bt n i : Nat)) := by simp [bl, h]
theorem bl_one (n : Nat) : ∀ v ∈ bl n, v.oneCell' = true := by
  intro v hv
  unfold bl at hv
  obtain ⟨i, _, rfl⟩ := List.mem_map.1 hv
  rfl
theorem bl_arr (n : Nat) : cArr (bl n) 260 := ⟨bl_len n, bl_one n⟩
theorem bl_cel (n : Nat) {i : Nat} (h : i < 260) : celI (bl n) i = (bt n i : Nat) := by unfold celI; rw [bl_get n h]; rfl
theorem cells_of {xs : List Value} {i : Nat} {m : Int} (h : xs[i]? = some (vi' m)) : cCells xs i [.int .i64 0] := by
  intro j c hj
  have hlt : j < 1 := by
    have := (List.getElem?_eq_some_iff.1 hj).1
    rw [rdR_len] at this
    simpa using this
  have : j = 0 := by omega
  subst this
  simp [rdR] at hj
  subst hj
  refine ⟨_, rfl, ?_⟩
  rw [Nat.add_zero, h]
  unfold celI
  rw [h]
  rfl
theorem bl_cells (n : Nat) {i : Nat} (h : i < 260) : cCells (bl n) i [.int .i64 0] := cells_of (bl_get n h)
theorem bl_inj {n m : Nat} (hn : n < 2 ^ b260) (hm : m < 2 ^ b260) (h : bl n = bl m) : n = m := by
  apply Nat.eq_of_testBit_eq
  intro i
  by_cases hi : i < 260
  · have h1 := bl_get n hi
    rw [h, bl_get m hi] at h1
    simp only [vi', Option.some.injEq, Value.int.injEq, true_and] at h1
    have h2 : bt m i = bt n i := by omega
    simp only [Nat.testBit_eq_decide_div_mod_eq]
    unfold bt at h2
    rw [h2]
  · have hp : (2 : Nat) ^ b260 ≤ 2 ^ i := Nat.pow_le_pow_right (by omega) (by unfold b260; omega)
    rw [Nat.testBit_lt_two_pow (Nat.lt_of_lt_of_le hn hp), Nat.testBit_lt_two_pow (Nat.lt_of_lt_of_le hm hp)]
/-- A list of bits, and the number that it tells. -/
def IsB (xs : List Value) : Prop := ∃ n, n < 2 ^ b260 ∧ xs = bl n
open Classical in
@[irreducible] noncomputable def nl (xs : List Value) : Nat := if h : IsB xs then Classical.choose h else 0
theorem nl_bl {n : Nat} (hn : n < 2 ^ b260) : nl (bl n) = n := by
  have h : IsB (bl n) := ⟨n, hn, rfl⟩
  unfold nl
  rw [dif_pos h]
  have := Classical.choose_spec h
  exact (bl_inj hn this.1 this.2).symm
theorem isB_bl {n : Nat} (hn : n < 2 ^ b260) : IsB (bl n) := ⟨n, hn, rfl⟩
theorem bl_nl {xs : List Value} (h : IsB xs) : xs = bl (nl xs) ∧ nl xs < 2 ^ b260 := by
  obtain ⟨n, hn, rfl⟩ := h
  rw [nl_bl hn]
  exact ⟨rfl, hn⟩

/-! ### Wide numbers -/
def p64 : Nat := 18446744073709551616
theorem p64_eq : p64 = 2 ^ 64 := by decide
/-- The number that a wide one is. -/
def nw (x : Wd) : Nat := x.hi.toNat * p64 + x.lo.toNat
structure WfW (x : Wd) : Prop where
  h0 : 0 ≤ x.hi
  h1 : x.hi < 18446744073709551616
  l0 : 0 ≤ x.lo
  l1 : x.lo < 18446744073709551616
/-- The wide one of a number. -/
@[irreducible] def ofN (n : Nat) : Wd := ⟨(n / p64 % p64 : Nat), (n % p64 : Nat)⟩
theorem ofN_wf (n : Nat) : WfW (ofN n) := by
  unfold ofN p64
  constructor <;> simp only <;> omega
theorem nw_ofN {n : Nat} (h : n < p64 * p64) : nw (ofN n) = n := by
  unfold nw ofN p64 at *
  simp only [Int.toNat_natCast]
  omega
theorem nw_lt {x : Wd} (h : WfW x) : nw x < p64 * p64 := by
  have h0 := h.h0; have h1 := h.h1; have h2 := h.l0; have h3 := h.l1
  unfold nw p64
  omega
theorem ofN_nw {x : Wd} (h : WfW x) : ofN (nw x) = x := by
  have h0 := h.h0; have h1 := h.h1; have h2 := h.l0; have h3 := h.l1
  obtain ⟨hi, lo⟩ := x
  simp only at h0 h1 h2 h3
  unfold ofN nw p64
  simp only [Wd.mk.injEq]
  omega
theorem p128 : p64 * p64 < 2 ^ b260 := by
  have h1 : p64 * p64 = 2 ^ 128 := by decide
  rw [h1]
  exact Nat.pow_lt_pow_right (by omega) (by unfold b260; omega)
end Go.Proofs.Ytemoagpahhdoeaa
