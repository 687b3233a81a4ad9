/- The union of two boxes: the law, walked. No condition. -/
import Derived.Test.YtemoagpahhdoeaaKb
namespace Go.Proofs.Ytemoagpahhdoeaa
open Go.Sy
open Go.RowKit (Below)
set_option linter.unusedSimpArgs false
set_option linter.unusedVariables false
set_option maxRecDepth 100000

theorem lbox_ok : SpecOK Try.prog 16 (pureS boxG) := by
  refine pure_ok ⟨_, _, Try.func16, rfl, by kernel_rfl⟩ ?_
  intro F vs c v hp hc
  unfold boxG at hp
  split at hp
  · cases hp
    refine ⟨rfl, rfl, fun w hF => ?_⟩
    refine pure_calls (E := ⟨Ty, (fun _ => none), fun k => w.heap[k]?, 15, []⟩) Try.func16 rfl mixed Ty_ok (specs_nil _) rfl (by kernel_rfl) rfl rfl rfl ?_
    refine ⟨fun h1 => ?_, fun h1 => ?_⟩
    · refine ⟨?_, trivial⟩
      simp [boxB, h1]
    · refine ⟨?_, trivial⟩
      simp [boxB, h1]
  · cases hp
def sp25 : Specs := consSp 16 (pureS boxG) sp24
theorem sp25_ok : SpecsOK Try.prog sp25 := specs_cons lbox_ok sp24_ok

@[irreducible] def growW (a b : Key) : Sz := if boxB a && boxB b then growsS a b else ⟨⟨0, 0⟩, ⟨0, 0⟩⟩
def growG : PureG := fun F vs => match vs with
  | [.e (.agg [.val (.int .i64 a), .val (.int .i64 b), .val (.int .i64 c), .val (.int .i64 d)]), .e (.agg [.val (.int .i64 a'), .val (.int .i64 b'), .val (.int .i64 c'), .val (.int .i64 d')])] => some (.t, .tup [wv (growW ⟨a, b, c, d⟩ ⟨a', b', c', d'⟩).area, wv (growW ⟨a, b, c, d⟩ ⟨a', b', c', d'⟩).margin])
  | _ => none
theorem grow_ok : SpecOK Try.prog 11 (pureS growG) := by
  refine pure_ok ⟨_, _, Try.func11, rfl, by kernel_rfl⟩ ?_
  intro F vs c v hp hc
  unfold growG at hp
  split at hp
  · cases hp
    refine ⟨rfl, rfl, fun w hF => ?_⟩
    refine pure_calls (E := ⟨Ty, sp25, fun k => w.heap[k]?, 24, []⟩) Try.func11 rfl mixed Ty_ok sp25_ok rfl (by kernel_rfl) rfl rfl rfl ?_
    refine ⟨fun h1 => ?_, fun h1 => ?_⟩
    · simp at h1
      exact ⟨rfl, by simp [growW, h1], rfl, by simp [growW, h1], rfl, by simp [growW, h1], rfl, by simp [growW, h1], trivial⟩
    refine ⟨fun h2 => ?_, fun h2 => ?_⟩
    · simp at h1 h2
      exact ⟨rfl, by simp [growW, h1, h2], rfl, by simp [growW, h1, h2], rfl, by simp [growW, h1, h2], rfl, by simp [growW, h1, h2], trivial⟩
    · simp at h1 h2
      refine ⟨by kernel_rfl, ?_⟩
      exact ⟨rfl, by simp [growW, h1, h2], rfl, by simp [growW, h1, h2], rfl, by simp [growW, h1, h2], rfl, by simp [growW, h1, h2], trivial⟩
  · cases hp
def sp26 : Specs := consSp 11 (pureS growG) sp25
theorem sp26_ok : SpecsOK Try.prog sp26 := specs_cons grow_ok sp25_ok

theorem mn_le (a b : Int) : mn a b ≤ a ∧ mn a b ≤ b ∧ (mn a b = a ∨ mn a b = b) := by unfold mn; split <;> omega
theorem mx_le (a b : Int) : a ≤ mx a b ∧ b ≤ mx a b ∧ (mx a b = a ∨ mx a b = b) := by unfold mx; split <;> omega
theorem key_ext {a b : Key} (h0 : a.x0 = b.x0) (h1 : a.x1 = b.x1) (h2 : a.y0 = b.y0) (h3 : a.y1 = b.y1) : a = b := by cases a; cases b; simp_all
theorem uni_box {a b : Key} (ha : boxB a = true) (hb : boxB b = true) : uni a b = ⟨mn a.x0 b.x0, mx a.x1 b.x1, mn a.y0 b.y0, mx a.y1 b.y1⟩ := by simp [uni, ha, hb]
theorem uni_is_box {a b : Key} (ha : boxB a = true) (hb : boxB b = true) : boxB (uni a b) = true := by
  rw [uni_box ha hb]
  rw [box_is, decide_eq_true_eq] at *
  have := mn_le a.x0 b.x0; have := mx_le a.x1 b.x1; have := mn_le a.y0 b.y0; have := mx_le a.y1 b.y1
  simp only
  omega
theorem uni_covers1 {a b : Key} (ha : boxB a = true) (hb : boxB b = true) : coversB (uni a b) a = true := by
  have h := uni_is_box ha hb
  rw [uni_box ha hb] at *
  rw [box_is, decide_eq_true_eq] at *
  rw [covers_is, decide_eq_true_eq]
  have := mn_le a.x0 b.x0; have := mx_le a.x1 b.x1; have := mn_le a.y0 b.y0; have := mx_le a.y1 b.y1
  simp only at *
  omega
theorem uni_comm (a b : Key) : uni a b = uni b a := by
  cases ha : boxB a with
  | false => simp [uni, ha]
  | true =>
    cases hb : boxB b with
    | false => simp [uni, hb]
    | true =>
      rw [uni_box ha hb, uni_box hb ha]
      have h1 := mn_le a.x0 b.x0; have h2 := mx_le a.x1 b.x1; have h3 := mn_le a.y0 b.y0; have h4 := mx_le a.y1 b.y1
      have k1 := mn_le b.x0 a.x0; have k2 := mx_le b.x1 a.x1; have k3 := mn_le b.y0 a.y0; have k4 := mx_le b.y1 a.y1
      exact key_ext (by simp only; omega) (by simp only; omega) (by simp only; omega) (by simp only; omega)
theorem uni_covers2 {a b : Key} (ha : boxB a = true) (hb : boxB b = true) : coversB (uni a b) b = true := by
  rw [uni_comm]; exact uni_covers1 hb ha
theorem uni_self {a : Key} (ha : boxB a = true) : uni a a = a := by
  rw [uni_box ha ha]
  have h1 := mn_le a.x0 a.x0; have h2 := mx_le a.x1 a.x1; have h3 := mn_le a.y0 a.y0; have h4 := mx_le a.y1 a.y1
  exact key_ext (by simp only; omega) (by simp only; omega) (by simp only; omega) (by simp only; omega)
theorem uni_least {a b c : Key} (h1 : coversB c a = true) (h2 : coversB c b = true) : coversB c (uni a b) = true := by
  rw [covers_is, decide_eq_true_eq] at h1 h2
  have ha : boxB a = true := by rw [box_is, decide_eq_true_eq]; omega
  have hb : boxB b = true := by rw [box_is, decide_eq_true_eq]; omega
  have hu := uni_is_box ha hb
  rw [uni_box ha hb] at *
  rw [box_is, decide_eq_true_eq] at hu
  rw [covers_is, decide_eq_true_eq]
  have := mn_le a.x0 b.x0; have := mx_le a.x1 b.x1; have := mn_le a.y0 b.y0; have := mx_le a.y1 b.y1
  simp only at *
  omega
theorem covers_uni {a b : Key} (h : coversB a b = true) : uni a b = a := by
  rw [covers_is, decide_eq_true_eq] at h
  have ha : boxB a = true := by rw [box_is, decide_eq_true_eq]; omega
  have hb : boxB b = true := by rw [box_is, decide_eq_true_eq]; omega
  rw [uni_box ha hb]
  have h1 := mn_le a.x0 b.x0; have h2 := mx_le a.x1 b.x1; have h3 := mn_le a.y0 b.y0; have h4 := mx_le a.y1 b.y1
  exact key_ext (by simp only; omega) (by simp only; omega) (by simp only; omega) (by simp only; omega)
theorem sub_self (a : Int) : isub .u64 a a = 0 := by
  unfold isub
  rw [Int.sub_self]
  rfl
theorem subW_self (x : Wd) : subW x x = ⟨0, 0⟩ := by
  simp [subW, ilt, sub_self]
theorem grow_none {a b : Key} (h : coversB a b = true) : growW a b = ⟨⟨0, 0⟩, ⟨0, 0⟩⟩ := by
  simp only [growW, growsS, covers_uni h, subW_self]
  split <;> rfl

set_option maxHeartbeats 2000000 in
theorem union_law (w : World) (a b c : Key) : Calls Try.prog 6 #[keyVal a, keyVal b, keyVal c] w fun e w' => e = .returned (.bool true) ∧ Below w.heap.size w w' := by
  refine pure_calls (vs := [.e (kv a), .e (kv b), .e (kv c)]) (v := sval (.bool true)) (E := ⟨Ty, sp26, fun k => w.heap[k]?, 78, []⟩) Try.func6 rfl mixed Ty_ok sp26_ok rfl (by kernel_rfl) rfl rfl rfl ?_
  refine ⟨fun h => (no_t h (by kernel_rfl)).elim, fun _ => ?_⟩
  have f1 := @uni_covers1 a b
  have f2 := @uni_covers2 a b
  have f3 := uni_comm a b
  have f4 := @uni_self a
  have f5 := @uni_least a b c
  have f6 := @grow_none (uni a b) a
  have f7 : boxB a = false → uni a b = ⟨0, 0, 0, 0⟩ := fun h => by simp [uni, h]
  have f8 : boxB b = false → uni a b = ⟨0, 0, 0, 0⟩ := fun h => by simp [uni, h]
  repeat' first | exact ⟨rfl, trivial⟩ | refine ⟨fun _ => ?_, fun _ => ?_⟩ | refine ⟨(by kernel_rfl : drawB _ _ = true), ?_⟩ | fail
  all_goals first
    | (exfalso; clear f6; simp_all [bEq, ieq]; done)
    | (refine ⟨?_, trivial⟩; simp_all [bEq, ieq]; done)
    | trace_state
end Go.Proofs.Ytemoagpahhdoeaa
