/- Whether boxes meet: the law, walked. No condition. -/
import Derived.Test.YtemoagpahhdoeaaKa
namespace Go.Proofs.Ytemoagpahhdoeaa
open Go.Sy
open Go.RowKit (Below)
set_option linter.unusedSimpArgs false
set_option linter.unusedVariables false
set_option maxRecDepth 100000

theorem box_is (k : Key) : boxB k = decide (k.x0 ≤ k.x1 ∧ k.y0 ≤ k.y1) := by simp [boxB, ile]
theorem meets_is (a b : Key) : meetsB a b = decide (a.x0 ≤ a.x1 ∧ a.y0 ≤ a.y1 ∧ b.x0 ≤ b.x1 ∧ b.y0 ≤ b.y1 ∧ a.x0 ≤ b.x1 ∧ b.x0 ≤ a.x1 ∧ a.y0 ≤ b.y1 ∧ b.y0 ≤ a.y1) := by
  rw [Bool.eq_iff_iff]
  simp [meetsB, box_is, ile, and_assoc]
theorem covers_is (a b : Key) : coversB a b = decide (a.x0 ≤ a.x1 ∧ a.y0 ≤ a.y1 ∧ b.x0 ≤ b.x1 ∧ b.y0 ≤ b.y1 ∧ a.x0 ≤ b.x0 ∧ b.x1 ≤ a.x1 ∧ a.y0 ≤ b.y0 ∧ b.y1 ≤ a.y1) := by
  rw [Bool.eq_iff_iff]
  simp only [coversB, box_is, Bool.and_eq_true, decide_eq_true_eq]
  constructor
  · rintro ⟨⟨⟨p1, p2⟩, p3, p4⟩, h⟩
    simp only [keqB, uni, box_is, p1, p2, p3, p4, ieq, mn, mx, Bool.and_eq_true, beq_iff_eq] at h
    simp at h
    refine ⟨p1, p2, p3, p4, ?_⟩
    obtain ⟨h1, h2, h3, h4⟩ := h
    refine ⟨?_, ?_, ?_, ?_⟩ <;> omega
  · rintro ⟨p1, p2, p3, p4, p5, p6, p7, p8⟩
    refine ⟨⟨⟨p1, p2⟩, p3, p4⟩, ?_⟩
    simp only [keqB, uni, box_is, p1, p2, p3, p4, ieq, mn, mx, Bool.and_eq_true, beq_iff_eq]
    simp
    refine ⟨?_, ?_, ?_, ?_⟩ <;> omega

theorem meets_symm (a b : Key) : meetsB a b = meetsB b a := by
  rw [meets_is, meets_is, Bool.eq_iff_iff]
  simp only [decide_eq_true_eq]
  constructor <;> (rintro ⟨p1, p2, p3, p4, p5, p6, p7, p8⟩; exact ⟨p3, p4, p1, p2, p6, p5, p8, p7⟩)
theorem meets_cover {a b c : Key} (h1 : meetsB a b = true) (h2 : coversB c a = true) : meetsB c b = true := by
  rw [meets_is, decide_eq_true_eq] at h1 ⊢
  rw [covers_is, decide_eq_true_eq] at h2
  omega
theorem covers_meets {a b : Key} (h1 : coversB a b = true) : meetsB a b = true := by
  rw [covers_is, decide_eq_true_eq] at h1
  rw [meets_is, decide_eq_true_eq]
  omega
theorem covers_both {a b : Key} (h1 : coversB a b = true) (h2 : coversB b a = true) : keqB a b = true := by
  rw [covers_is, decide_eq_true_eq] at h1 h2
  simp only [keqB, ieq, Bool.and_eq_true, beq_iff_eq]
  omega

def keyVal (k : Key) : Value := .agg #[vi k.x0, vi k.x1, vi k.y0, vi k.y1]
theorem meets_law (w : World) (a b c : Key) : Calls Try.prog 4 #[keyVal a, keyVal b, keyVal c] w fun e w' => e = .returned (.bool true) ∧ Below w.heap.size w w' := by
  refine pure_calls (vs := [.e (kv a), .e (kv b), .e (kv c)]) (v := sval (.bool true)) (E := ⟨Ty, sp24, fun k => w.heap[k]?, 50, []⟩) Try.func4 rfl mixed Ty_ok sp24_ok rfl (by kernel_rfl) rfl rfl rfl ?_
  refine ⟨fun h => (no_t h (by kernel_rfl)).elim, fun _ => ?_⟩
  repeat' first | exact ⟨rfl, trivial⟩ | refine ⟨fun _ => ?_, fun _ => ?_⟩ | refine ⟨(by kernel_rfl : drawB _ _ = true), ?_⟩ | fail
  all_goals have f1 := meets_symm a b
  all_goals have f2 := @meets_cover a b c
  all_goals have f3 := @covers_meets a b
  all_goals have f4 := @covers_both a b
  all_goals simp only [keqB, Bool.and_eq_true] at f4
  all_goals first
    | (exfalso; simp_all [bEq]; done)
    | (refine ⟨?_, trivial⟩; show (!coversB b a) = true; cases hb : coversB b a <;> simp_all [bEq]; done)
    | trace_state
end Go.Proofs.Ytemoagpahhdoeaa
