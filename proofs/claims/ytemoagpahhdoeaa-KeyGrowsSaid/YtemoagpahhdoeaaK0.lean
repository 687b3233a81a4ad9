/- The types of the program that the key laws reach. No condition. -/
import Derived.Test.YtemoagpahhdoeaaRows
import Derived.Test.YtemoagpahhdoeaaSyF
namespace Go.Proofs.Ytemoagpahhdoeaa
open Go.Sy
set_option linter.unusedSimpArgs false
set_option linter.unusedVariables false
theorem ti2 : tiOf Try.prog 2 = some { size := 1, zero := [.int .i64 0], ik := some .i64 } := by kernel_rfl
theorem ti3 : tiOf Try.prog 3 = some { size := 1, zero := [.int .i64 0], ik := some .i64 } := by kernel_rfl
theorem ti4 : tiOf Try.prog 4 = some { size := 1, zero := [.bool false], bl := true, byt := 1 } := by kernel_rfl
theorem ti22 : tiOf Try.prog 22 = some { size := 1, zero := [.slice none 0 0], el := some 32, byt := 24 } := by kernel_rfl
theorem ti24 : tiOf Try.prog 24 = some { size := 1, zero := [.slice none 0 0], el := some 3, byt := 24 } := by kernel_rfl
theorem ti25 : tiOf Try.prog 25 = some { size := 1, zero := [.int .i64 0], ik := some .i64 } := by kernel_rfl
theorem ti28 : tiOf Try.prog 28 = some { size := 1, zero := [.slice none 0 0], el := some 4, byt := 24 } := by kernel_rfl
theorem ti29 : tiOf Try.prog 29 = some { size := 1, zero := [.slice none 0 0], el := some 24, byt := 24 } := by kernel_rfl
theorem ti32 : tiOf Try.prog 32 = some { agg := true, size := 4, zero := [.int .i64 0, .int .i64 0, .int .i64 0, .int .i64 0], flds := [(0, 2), (1, 2), (2, 2), (3, 2)], eqk := true, byt := 32 } := by kernel_rfl
theorem ti35 : tiOf Try.prog 35 = some { size := 1, zero := [.int .u64 0], ik := some .u64 } := by kernel_rfl
theorem ti37 : tiOf Try.prog 37 = some { agg := true, size := 2, zero := [.int .u64 0, .int .u64 0], flds := [(0, 35), (1, 35)], eqk := true, byt := 16 } := by kernel_rfl
theorem ti46 : tiOf Try.prog 46 = some { size := 1, zero := [.pointer none] } := by kernel_rfl
theorem ti48 : tiOf Try.prog 48 = some { agg := true, size := 5, zero := [.slice none 0 0, .int .i64 0, .int .i64 0, .int .i64 0, .int .i64 0], flds := [(0, 24), (1, 32)], byt := 56 } := by kernel_rfl
theorem ti53 : tiOf Try.prog 53 = some { agg := true, size := 4, zero := [.int .u64 0, .int .u64 0, .int .u64 0, .int .u64 0], flds := [(0, 37), (2, 37)], byt := 32 } := by kernel_rfl
theorem ti61 : tiOf Try.prog 61 = some { agg := true, size := 260, zero := List.replicate 260 (.int .i64 0), arr := (List.range 260).map fun k => (k * 1, 3), arn := some (3, 260), byt := 2080, big := true } := by kernel_rfl
theorem ti68 : tiOf Try.prog 68 = some { agg := true, size := 8, zero := [.int .i64 0, .int .i64 0, .int .i64 0, .int .i64 0, .int .i64 0, .int .i64 0, .int .i64 0, .int .i64 0], arr := [(0, 32), (4, 32)], arn := some (32, 2), byt := 64 } := by kernel_rfl
theorem ti70 : tiOf Try.prog 70 = some { agg := true, size := 4, zero := [.int .u64 0, .int .u64 0, .int .u64 0, .int .u64 0], arr := [(0, 35), (1, 35), (2, 35), (3, 35)], arn := some (35, 4), byt := 32 } := by kernel_rfl
def Ty : TT := fun t => match t with
  | 2 => some { size := 1, zero := [.int .i64 0], ik := some .i64 }
  | 3 => some { size := 1, zero := [.int .i64 0], ik := some .i64 }
  | 4 => some { size := 1, zero := [.bool false], bl := true, byt := 1 }
  | 22 => some { size := 1, zero := [.slice none 0 0], el := some 32, byt := 24 }
  | 24 => some { size := 1, zero := [.slice none 0 0], el := some 3, byt := 24 }
  | 25 => some { size := 1, zero := [.int .i64 0], ik := some .i64 }
  | 28 => some { size := 1, zero := [.slice none 0 0], el := some 4, byt := 24 }
  | 29 => some { size := 1, zero := [.slice none 0 0], el := some 24, byt := 24 }
  | 32 => some { agg := true, size := 4, zero := [.int .i64 0, .int .i64 0, .int .i64 0, .int .i64 0], flds := [(0, 2), (1, 2), (2, 2), (3, 2)], eqk := true, byt := 32 }
  | 35 => some { size := 1, zero := [.int .u64 0], ik := some .u64 }
  | 37 => some { agg := true, size := 2, zero := [.int .u64 0, .int .u64 0], flds := [(0, 35), (1, 35)], eqk := true, byt := 16 }
  | 46 => some { size := 1, zero := [.pointer none] }
  | 48 => some { agg := true, size := 5, zero := [.slice none 0 0, .int .i64 0, .int .i64 0, .int .i64 0, .int .i64 0], flds := [(0, 24), (1, 32)], byt := 56 }
  | 53 => some { agg := true, size := 4, zero := [.int .u64 0, .int .u64 0, .int .u64 0, .int .u64 0], flds := [(0, 37), (2, 37)], byt := 32 }
  | 61 => some { agg := true, size := 260, zero := List.replicate 260 (.int .i64 0), arr := (List.range 260).map fun k => (k * 1, 3), arn := some (3, 260), byt := 2080, big := true }
  | 68 => some { agg := true, size := 8, zero := [.int .i64 0, .int .i64 0, .int .i64 0, .int .i64 0, .int .i64 0, .int .i64 0, .int .i64 0, .int .i64 0], arr := [(0, 32), (4, 32)], arn := some (32, 2), byt := 64 }
  | 70 => some { agg := true, size := 4, zero := [.int .u64 0, .int .u64 0, .int .u64 0, .int .u64 0], arr := [(0, 35), (1, 35), (2, 35), (3, 35)], arn := some (35, 4), byt := 32 }
  | _ => none
theorem Ty_ok : TOK Try.prog Ty := by
  intro t i h
  unfold Ty at h
  split at h
  · cases h; exact ti2
  · cases h; exact ti3
  · cases h; exact ti4
  · cases h; exact ti22
  · cases h; exact ti24
  · cases h; exact ti25
  · cases h; exact ti28
  · cases h; exact ti29
  · cases h; exact ti32
  · cases h; exact ti35
  · cases h; exact ti37
  · cases h; exact ti46
  · cases h; exact ti48
  · cases h; exact ti53
  · cases h; exact ti61
  · cases h; exact ti68
  · cases h; exact ti70
  · cases h
theorem mixed : Try.prog.follows .mixedOrders = true := by kernel_rfl
end Go.Proofs.Ytemoagpahhdoeaa
