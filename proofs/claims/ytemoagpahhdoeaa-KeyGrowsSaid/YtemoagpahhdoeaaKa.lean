/- The layer does something. No condition. -/
import Derived.Test.YtemoagpahhdoeaaK9
namespace Go.Proofs.Ytemoagpahhdoeaa
open Go.Sy
set_option linter.unusedSimpArgs false
set_option linter.unusedVariables false
set_option maxRecDepth 100000

def wakesG : PureG := fun F vs => match vs with
  | [] => some (.t, sval (.bool true))
  | _ => none
def wkL : List Key := keysR [vi 0, vi 0, vi 0, vi 0, vi 1, vi 1, vi 0, vi 0, vi 9, vi 9, vi 9, vi 9, vi 8, vi 8, vi 9, vi 9] 4
theorem wk1 : (partM wkL).pa.length = 2 := by kernel_rfl
theorem wk2 : (partM wkL).pb.length = 2 := by kernel_rfl
theorem wk3 : (sortM (partM wkL).pa).length = 2 := by kernel_rfl
theorem wk4 : (sortM (partM wkL).pb).length = 2 := by kernel_rfl
theorem no_t {b : Bool} (h : b = true) (h' : b = false) : False := by rw [h] at h'; cases h'
theorem wakes_ok : SpecOK Try.prog 7 (pureS wakesG) := by
  refine pure_ok ⟨_, _, Try.func7, rfl, by kernel_rfl⟩ ?_
  intro F vs c v hp hc
  unfold wakesG at hp
  split at hp
  · cases hp
    refine ⟨rfl, rfl, fun w hF => ?_⟩
    refine pure_calls (E := ⟨Ty, sp23, fun k => w.heap[k]?, 43, []⟩) Try.func7 rfl mixed Ty_ok sp23_ok rfl (by kernel_rfl) rfl rfl rfl ?_
    refine ⟨fun h => (no_t h (by kernel_rfl)).elim, fun _ => ?_⟩
    refine ⟨fun h => (no_t h (by kernel_rfl)).elim, fun _ => ?_⟩
    refine ⟨⟨rfl, ?_⟩, ?_⟩
    · intro i hi j hj
      have h1 : i = 0 ∨ i = 1 ∨ i = 2 ∨ i = 3 := by omega
      have h2 : j = 0 ∨ j = 1 ∨ j = 2 ∨ j = 3 := by omega
      rcases h1 with rfl | rfl | rfl | rfl <;> rcases h2 with rfl | rfl | rfl | rfl <;> rfl
    refine ⟨fun _ => ?_, fun h => (Bool.eq_false_iff.1 h (by kernel_rfl)).elim⟩
    refine ⟨fun _ => ?_, fun h => (Bool.eq_false_iff.1 h (by kernel_rfl)).elim⟩
    refine ⟨fun _ => ?_, fun h => (Bool.eq_false_iff.1 h (by kernel_rfl)).elim⟩
    refine ⟨?_, ?_⟩
    · exact ⟨by decide, Int.ofNat_lt.2 (show 1 < (partM wkL).pa.length by rw [wk1]; omega)⟩
    refine ⟨?_, ?_⟩
    · exact cCells_vi (l := sortM (partM wkL).pa) (m := 1) (by rw [wk3]; omega)
    refine ⟨fun _ => ?_, fun h => (Bool.eq_false_iff.1 h (by kernel_rfl)).elim⟩
    refine ⟨?_, ?_⟩
    · exact ⟨by decide, Int.ofNat_lt.2 (show 0 < (partM wkL).pb.length by rw [wk2]; omega)⟩
    refine ⟨?_, ?_⟩
    · exact cCells_vi (l := sortM (partM wkL).pb) (m := 0) (by rw [wk4]; omega)
    refine ⟨fun _ => ?_, fun h => (Bool.eq_false_iff.1 h (by kernel_rfl)).elim⟩
    exact ⟨by kernel_rfl, trivial⟩
  · cases hp
def sp24 : Specs := consSp 7 (pureS wakesG) sp23
theorem sp24_ok : SpecsOK Try.prog sp24 := specs_cons wakes_ok sp23_ok
end Go.Proofs.Ytemoagpahhdoeaa
