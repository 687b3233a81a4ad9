/- What is lost by putting two boxes together: a loop over both. No condition. -/
import Derived.Test.YtemoagpahhdoeaaK1
import Derived.Test.YtemoagpahhdoeaaSyG
namespace Go.Proofs.Ytemoagpahhdoeaa
open Go.Sy
set_option linter.unusedSimpArgs false
set_option linter.unusedVariables false
set_option maxRecDepth 100000

def zsz : Atom := .blk 53 [.val (.int .u64 0), .val (.int .u64 0), .val (.int .u64 0), .val (.int .u64 0)]
def wasteSt (a b : Key) (n : Int) (x : Wd) (m : Wd) : SS :=
  ⟨[(4, .e (.c (.ptr 4 0))), (6, .e (.c (.ptr 6 0))), (18, .e (.agg [.val (.int .i64 a.x0), .val (.int .i64 a.x1), .val (.int .i64 a.y0), .val (.int .i64 a.y1), .val (.int .i64 b.x0), .val (.int .i64 b.x1), .val (.int .i64 b.y0), .val (.int .i64 b.y1)])), (19, .e (.c (.val (.int .i64 n))))],
   [(4, zsz), (6, .blk 53 [.val (.int .u64 x.hi), .val (.int .u64 x.lo), .val (.int .u64 m.hi), .val (.int .u64 m.lo)])], []⟩
def wasteS3 (a b : Key) : Option Bool → SS
  | none => wasteSt a b 0 (ofK (uni a b)).area (ofK (uni a b)).margin
  | some false => wasteSt a b 1 (lostW (ofK (uni a b)).area (areaW a)) (ofK (uni a b)).margin
  | some true => wasteSt a b 2 (lostW (lostW (ofK (uni a b)).area (areaW a)) (areaW b)) (ofK (uni a b)).margin
def left3 : Option Bool → Nat
  | none => 2
  | some false => 1
  | some true => 0

theorem lost_t {x y : Wd} (h : subL x y = true) : lostW x y = subW x y := by simp [lostW, h]
theorem lost_f {x y : Wd} (h : subL x y = false) : lostW x y = ⟨0, 0⟩ := by simp [lostW, h]
def wasteG : PureG := fun F vs => match vs with
  | [.e (.agg [.val (.int .i64 a), .val (.int .i64 b), .val (.int .i64 c), .val (.int .i64 d)]), .e (.agg [.val (.int .i64 a'), .val (.int .i64 b'), .val (.int .i64 c'), .val (.int .i64 d')])] => some (.t, .e (sv (wasteS ⟨a, b, c, d⟩ ⟨a', b', c', d'⟩)))
  | _ => none
theorem waste_ok : SpecOK Try.prog 31 (pureS wasteG) := by
  refine pure_ok ⟨_, _, Try.func31, rfl, by kernel_rfl⟩ ?_
  intro F vs c v hp hc
  unfold wasteG at hp
  split at hp
  · rename_i a b c d a' b' c' d'
    cases hp
    refine ⟨rfl, rfl, fun w hF => ?_⟩
    refine pure_calls (E := ⟨Ty, sp16, fun k => w.heap[k]?, 37, []⟩) Try.func31 rfl mixed Ty_ok sp16_ok rfl (by kernel_rfl) rfl rfl rfl ?_
    refine ⟨Option Bool, wasteS3 ⟨a, b, c, d⟩ ⟨a', b', c', d'⟩, left3, none, ⟨fun x => x, rfl, rfl, ⟨by kernel_rfl, by kernel_rfl, by kernel_rfl, by kernel_rfl, trivial⟩, ⟨by kernel_rfl, by kernel_rfl, trivial⟩, rfl, rfl, rfl⟩, ?_⟩
    intro i
    match i with
    | none =>
      refine ⟨fun h1 => ?_, fun h1 => by simp [ilt] at h1⟩
      refine ⟨by kernel_rfl, ?_⟩
      refine ⟨fun h2 => ?_, fun h2 => ?_⟩
      · refine ⟨some false, ⟨fun x => x, rfl, rfl, ⟨by kernel_rfl, by kernel_rfl, by kernel_rfl, by kernel_rfl, trivial⟩, ⟨by kernel_rfl, ?_, trivial⟩, rfl, rfl, rfl⟩, by decide⟩
        simp at h2
        simp [lk_cons, Atom.ren, SC.ren, lostW, h2, setCs]
      · refine ⟨some false, ⟨fun x => x, rfl, rfl, ⟨by kernel_rfl, by kernel_rfl, by kernel_rfl, by kernel_rfl, trivial⟩, ⟨by kernel_rfl, ?_, trivial⟩, rfl, rfl, rfl⟩, by decide⟩
        simp at h2
        simp [lk_cons, Atom.ren, SC.ren, lostW, h2, setCs]
    | some false =>
      refine ⟨fun h1 => ?_, fun h1 => by simp [ilt] at h1⟩
      refine ⟨by kernel_rfl, ?_⟩
      refine ⟨fun h2 => ?_, fun h2 => ?_⟩
      · refine ⟨some true, ⟨fun x => x, rfl, rfl, ⟨by kernel_rfl, by kernel_rfl, by kernel_rfl, by kernel_rfl, trivial⟩, ⟨by kernel_rfl, ?_, trivial⟩, rfl, rfl, rfl⟩, by decide⟩
        have h3 : subL (lostW (ofK (uni ⟨a, b, c, d⟩ ⟨a', b', c', d'⟩)).area (areaW ⟨a, b, c, d⟩)) (areaW ⟨a', b', c', d'⟩) = false := by simpa using h2
        simp [lk_cons, Atom.ren, SC.ren, lost_f h3, setCs]
      · refine ⟨some true, ⟨fun x => x, rfl, rfl, ⟨by kernel_rfl, by kernel_rfl, by kernel_rfl, by kernel_rfl, trivial⟩, ⟨by kernel_rfl, ?_, trivial⟩, rfl, rfl, rfl⟩, by decide⟩
        have h3 : subL (lostW (ofK (uni ⟨a, b, c, d⟩ ⟨a', b', c', d'⟩)).area (areaW ⟨a, b, c, d⟩)) (areaW ⟨a', b', c', d'⟩) = true := by simpa using h2
        simp [lk_cons, Atom.ren, SC.ren, lost_t h3, setCs]
    | some true =>
      refine ⟨fun h1 => by simp [ilt] at h1, fun h1 => ?_⟩
      exact ⟨rfl, by simp [wasteS], rfl, by simp [wasteS], rfl, by simp [wasteS], rfl, by simp [wasteS], trivial⟩
  · cases hp
def sp17 : Specs := consSp 31 (pureS wasteG) sp16
theorem sp17_ok : SpecsOK Try.prog sp17 := specs_cons waste_ok sp16_ok
end Go.Proofs.Ytemoagpahhdoeaa
