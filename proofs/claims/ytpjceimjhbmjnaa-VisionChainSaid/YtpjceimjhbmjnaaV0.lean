/- The types of the program that the vision laws reach. No condition. -/
import Derived.Test.YtpjceimjhbmjnaaRows
import Derived.Test.YtpjceimjhbmjnaaSyG
namespace Go.Proofs.Ytpjceimjhbmjnaa
open Go.Sy
set_option linter.unusedSimpArgs false
set_option linter.unusedVariables false
theorem ti2 : tiOf Try.prog 2 = some { size := 1, zero := [.int .i64 0], ik := some .i64 } := by kernel_rfl
theorem ti3 : tiOf Try.prog 3 = some { size := 1, zero := [.int .i64 0], ik := some .i64 } := by kernel_rfl
theorem ti4 : tiOf Try.prog 4 = some { size := 1, zero := [.bool false], bl := true, byt := 1 } := by kernel_rfl
theorem ti22 : tiOf Try.prog 22 = some { size := 1, zero := [.int .u64 0], ik := some .u64 } := by kernel_rfl
theorem ti23 : tiOf Try.prog 23 = some { size := 1, zero := [.slice none 0 0], el := some 44, byt := 24 } := by kernel_rfl
theorem ti25 : tiOf Try.prog 25 = some { agg := true, size := 2, zero := [.int .u64 0, .slice none 0 0], flds := [(0, 22), (1, 23)], byt := 32 } := by kernel_rfl
theorem ti27 : tiOf Try.prog 27 = some { agg := true, size := 3, zero := [.int .u64 0, .bool false, .int .u64 0], flds := [(0, 22), (1, 4), (2, 22)], byt := 24 } := by kernel_rfl
theorem ti28 : tiOf Try.prog 28 = some { size := 1, zero := [.int .u32 0], ik := some .u32, byt := 4 } := by kernel_rfl
theorem ti30 : tiOf Try.prog 30 = some { agg := true, size := 4, zero := [.int .i64 0, .int .i64 0, .int .i64 0, .int .i64 0], flds := [(0, 2), (1, 2), (2, 2), (3, 2)], eqk := true, byt := 32 } := by kernel_rfl
theorem ti32 : tiOf Try.prog 32 = some { agg := true, size := 8, zero := [.int .u32 0, .int .u64 0, .int .u64 0, .int .i64 0, .int .i64 0, .int .i64 0, .int .i64 0, .int .i64 0], flds := [(0, 28), (1, 22), (2, 22), (3, 30), (7, 2)], byt := 64 } := by kernel_rfl
theorem ti34 : tiOf Try.prog 34 = some { size := 1, zero := [.int .i64 0], ik := some .i64 } := by kernel_rfl
theorem ti44 : tiOf Try.prog 44 = some { agg := true, size := 2, zero := [.int .u64 0, .int .u64 0], flds := [(0, 22), (1, 22)], eqk := true, byt := 16 } := by kernel_rfl
theorem ti46 : tiOf Try.prog 46 = some { size := 1, zero := [.slice none 0 0], el := some 22, byt := 24 } := by kernel_rfl
theorem ti49 : tiOf Try.prog 49 = some { agg := true, size := 2, zero := [.int .u64 0, .int .u64 0], arr := [(0, 22), (1, 22)], byt := 16 } := by kernel_rfl
theorem ti51 : tiOf Try.prog 51 = some { size := 1, zero := [.map none], mpk := some .u64 } := by kernel_rfl
theorem ti54 : tiOf Try.prog 54 = some { agg := true, size := 5, zero := [.int .u64 0, .bool false, .int .u64 0, .int .u64 0, .slice none 0 0], flds := [(0, 27), (3, 25)], byt := 56 } := by kernel_rfl
theorem ti66 : tiOf Try.prog 66 = some { size := 1, zero := [.int .u64 0], ik := some .u64 } := by kernel_rfl
def Ty : TT := fun t => match t with
  | 2 => some { size := 1, zero := [.int .i64 0], ik := some .i64 }
  | 3 => some { size := 1, zero := [.int .i64 0], ik := some .i64 }
  | 4 => some { size := 1, zero := [.bool false], bl := true, byt := 1 }
  | 22 => some { size := 1, zero := [.int .u64 0], ik := some .u64 }
  | 23 => some { size := 1, zero := [.slice none 0 0], el := some 44, byt := 24 }
  | 25 => some { agg := true, size := 2, zero := [.int .u64 0, .slice none 0 0], flds := [(0, 22), (1, 23)], byt := 32 }
  | 27 => some { agg := true, size := 3, zero := [.int .u64 0, .bool false, .int .u64 0], flds := [(0, 22), (1, 4), (2, 22)], byt := 24 }
  | 28 => some { size := 1, zero := [.int .u32 0], ik := some .u32, byt := 4 }
  | 30 => some { agg := true, size := 4, zero := [.int .i64 0, .int .i64 0, .int .i64 0, .int .i64 0], flds := [(0, 2), (1, 2), (2, 2), (3, 2)], eqk := true, byt := 32 }
  | 32 => some { agg := true, size := 8, zero := [.int .u32 0, .int .u64 0, .int .u64 0, .int .i64 0, .int .i64 0, .int .i64 0, .int .i64 0, .int .i64 0], flds := [(0, 28), (1, 22), (2, 22), (3, 30), (7, 2)], byt := 64 }
  | 34 => some { size := 1, zero := [.int .i64 0], ik := some .i64 }
  | 44 => some { agg := true, size := 2, zero := [.int .u64 0, .int .u64 0], flds := [(0, 22), (1, 22)], eqk := true, byt := 16 }
  | 46 => some { size := 1, zero := [.slice none 0 0], el := some 22, byt := 24 }
  | 49 => some { agg := true, size := 2, zero := [.int .u64 0, .int .u64 0], arr := [(0, 22), (1, 22)], byt := 16 }
  | 51 => some { size := 1, zero := [.map none], mpk := some .u64 }
  | 54 => some { agg := true, size := 5, zero := [.int .u64 0, .bool false, .int .u64 0, .int .u64 0, .slice none 0 0], flds := [(0, 27), (3, 25)], byt := 56 }
  | 66 => some { size := 1, zero := [.int .u64 0], ik := some .u64 }
  | _ => none
theorem Ty_ok : TOK Try.prog Ty := by
  intro t i h
  unfold Ty at h
  split at h
  · cases h; exact ti2
  · cases h; exact ti3
  · cases h; exact ti4
  · cases h; exact ti22
  · cases h; exact ti23
  · cases h; exact ti25
  · cases h; exact ti27
  · cases h; exact ti28
  · cases h; exact ti30
  · cases h; exact ti32
  · cases h; exact ti34
  · cases h; exact ti44
  · cases h; exact ti46
  · cases h; exact ti49
  · cases h; exact ti51
  · cases h; exact ti54
  · cases h; exact ti66
  · cases h
theorem mixed : Try.prog.follows .mixedOrders = true := by kernel_rfl
end Go.Proofs.Ytpjceimjhbmjnaa
