/- How much a box grows: the document's functions, told as the program's. No condition. -/
import Derived.Test.YtemoagpahhdoeaaL5
namespace Go.Proofs.Ytemoagpahhdoeaa
open Go.Sy
set_option linter.unusedSimpArgs false
set_option linter.unusedVariables false
set_option maxRecDepth 100000

def rwidG : PureG := fun F vs => match vs with
  | [.e (.c (.val (.int .i64 lo))), .e (.c (.val (.int .i64 hi)))] => some (.t, .e (u64 (rwid lo hi)))
  | _ => none
theorem rwid_ok : SpecOK Try.prog 39 (pureS rwidG) := by
  refine pure_ok ⟨_, _, Try.func39, rfl, by kernel_rfl⟩ ?_
  intro F vs c v hp hc
  unfold rwidG at hp
  split at hp
  · cases hp
    refine ⟨rfl, rfl, fun w hF => ?_⟩
    refine pure_calls (E := ⟨Ty, (fun _ => none), fun k => w.heap[k]?, 26, []⟩) Try.func39 rfl mixed Ty_ok (specs_nil _) rfl (by kernel_rfl) rfl rfl rfl ?_
    repeat' first | (refine ⟨fun _ => ?_, fun _ => ?_⟩) | fail
    all_goals refine ⟨rfl, ?_, trivial⟩
    all_goals simp_all [rwid]
  · cases hp
noncomputable def spd : Specs := consSp 39 (pureS rwidG) (consSp 38 (pureS rmulG) (consSp 40 (pureS raddG) (consSp 26 (pureS rsubG) spc)))
theorem spd_ok : SpecsOK Try.prog spd := specs_cons rwid_ok (specs_cons rmul_ok (specs_cons radd_ok (specs_cons rsub_ok spc_ok)))
def rareaG : PureG := fun F vs => match vs with
  | [.e (.agg [.val (.int .i64 a), .val (.int .i64 b), .val (.int .i64 c), .val (.int .i64 d)])] => some (.p (WfK ⟨a, b, c, d⟩), .e (wv (areaW ⟨a, b, c, d⟩)))
  | _ => none
theorem rarea_ok : SpecOK Try.prog 27 (pureS rareaG) := by
  refine pure_ok ⟨_, _, Try.func27, rfl, by kernel_rfl⟩ ?_
  intro F vs c v hp hc
  unfold rareaG at hp
  split at hp
  · rename_i a b c d
    cases hp
    have hk : WfK ⟨a, b, c, d⟩ := hc
    have r1 := rwid_eq hk.1 hk.2.1
    have r2 := rwid_eq hk.2.2.1 hk.2.2.2
    have w1 := width_wf hk.1 hk.2.1
    have w2 := width_wf hk.2.2.1 hk.2.2.2
    simp only at r1 r2 w1 w2
    refine ⟨rfl, rfl, fun w hF => ?_⟩
    refine pure_calls (E := ⟨Ty, spd, fun k => w.heap[k]?, 14, []⟩) Try.func27 rfl mixed Ty_ok spd_ok rfl (by kernel_rfl) rfl rfl rfl ?_
    refine ⟨⟨by rw [r1]; exact w1, by rw [r2]; exact w2⟩, ?_⟩
    have e : ofN ((rwid a b).toNat * (rwid c d).toNat) = areaW ⟨a, b, c, d⟩ := by
      rw [(area_wf hk).2, r1, r2, (nw_lo w1).1, (nw_lo w2).1]
    exact ⟨by kernel_rfl, rfl, congrArg (fun q => q.hi) e, rfl, congrArg (fun q => q.lo) e, trivial⟩
  · cases hp
def rmargG : PureG := fun F vs => match vs with
  | [.e (.agg [.val (.int .i64 a), .val (.int .i64 b), .val (.int .i64 c), .val (.int .i64 d)])] => some (.p (WfK ⟨a, b, c, d⟩), .e (wv (marginW ⟨a, b, c, d⟩)))
  | _ => none
theorem rmarg_ok : SpecOK Try.prog 28 (pureS rmargG) := by
  refine pure_ok ⟨_, _, Try.func28, rfl, by kernel_rfl⟩ ?_
  intro F vs c v hp hc
  unfold rmargG at hp
  split at hp
  · rename_i a b c d
    cases hp
    have hk : WfK ⟨a, b, c, d⟩ := hc
    have r1 := rwid_eq hk.1 hk.2.1
    have r2 := rwid_eq hk.2.2.1 hk.2.2.2
    have w1 := width_wf hk.1 hk.2.1
    have w2 := width_wf hk.2.2.1 hk.2.2.2
    simp only at r1 r2 w1 w2
    refine ⟨rfl, rfl, fun w hF => ?_⟩
    refine pure_calls (E := ⟨Ty, spd, fun k => w.heap[k]?, 22, []⟩) Try.func28 rfl mixed Ty_ok spd_ok rfl (by kernel_rfl) rfl rfl rfl ?_
    refine ⟨⟨by rw [r1]; exact w1, by rw [r2]; exact w2⟩, ?_⟩
    have e : ofN (nw ⟨0, rwid a b⟩ + nw ⟨0, rwid c d⟩) = marginW ⟨a, b, c, d⟩ := by
      rw [(margin_wf hk).2, r1, r2]
    exact ⟨by kernel_rfl, rfl, congrArg (fun q => q.hi) e, rfl, congrArg (fun q => q.lo) e, trivial⟩
  · cases hp
theorem rbox_ok : SpecOK Try.prog 24 (pureS boxG) := by
  refine pure_ok ⟨_, _, Try.func24, rfl, by kernel_rfl⟩ ?_
  intro F vs c v hp hc
  unfold boxG at hp
  split at hp
  · cases hp
    refine ⟨rfl, rfl, fun w hF => ?_⟩
    refine pure_calls (E := ⟨Ty, (fun _ => none), fun k => w.heap[k]?, 15, []⟩) Try.func24 rfl mixed Ty_ok (specs_nil _) rfl (by kernel_rfl) rfl rfl rfl ?_
    refine ⟨fun h1 => ?_, fun h1 => ?_⟩
    · refine ⟨?_, trivial⟩
      simp [boxB, h1]
    · refine ⟨?_, trivial⟩
      simp [boxB, h1]
  · cases hp
noncomputable def spe : Specs := consSp 24 (pureS boxG) (consSp 27 (pureS rareaG) (consSp 28 (pureS rmargG) spd))
theorem spe_ok : SpecsOK Try.prog spe := specs_cons rbox_ok (specs_cons rarea_ok (specs_cons rmarg_ok spd_ok))
set_option maxHeartbeats 2000000 in
theorem runi_ok : SpecOK Try.prog 25 (pureS uniG) := by
  refine pure_ok ⟨_, _, Try.func25, rfl, by kernel_rfl⟩ ?_
  intro F vs c v hp hc
  unfold uniG at hp
  split at hp
  · rename_i a b c d a' b' c' d'
    cases hp
    refine ⟨rfl, rfl, fun w hF => ?_⟩
    refine pure_calls (E := ⟨Ty, spe, fun k => w.heap[k]?, 47, []⟩) Try.func25 rfl mixed Ty_ok spe_ok rfl (by kernel_rfl) rfl rfl rfl ?_
    refine ⟨fun h1 => ?_, fun h1 => ?_⟩
    · refine ⟨rfl, ?_, rfl, ?_, rfl, ?_, rfl, ?_, trivial⟩ <;> simp at h1 <;> simp [uni, h1]
    refine ⟨fun h2 => ?_, fun h2 => ?_⟩
    · refine ⟨rfl, ?_, rfl, ?_, rfl, ?_, rfl, ?_, trivial⟩ <;> simp at h1 h2 <;> simp [uni, h1, h2]
    simp at h1 h2
    have hu : uni ⟨a, b, c, d⟩ ⟨a', b', c', d'⟩ = ⟨mn a a', mx b b', mn c c', mx d d'⟩ := uni_box h1 h2
    rw [hu]
    have g1 : ∀ x y, ilt y x = true → mn x y = y := fun x y h => by simp [ilt] at h; simp [mn]; omega
    have g2 : ∀ x y, ilt y x = false → mn x y = x := fun x y h => by simp [ilt] at h; simp [mn]; omega
    have g3 : ∀ x y, ilt x y = true → mx x y = y := fun x y h => by simp [ilt] at h; simp [mx]; omega
    have g4 : ∀ x y, ilt x y = false → mx x y = x := fun x y h => by simp [ilt] at h; simp [mx]; omega
    refine ⟨fun k1 => ?_, fun k1 => ?_⟩ <;> refine ⟨fun k2 => ?_, fun k2 => ?_⟩ <;> refine ⟨fun k3 => ?_, fun k3 => ?_⟩ <;> refine ⟨fun k4 => ?_, fun k4 => ?_⟩ <;>
      refine ⟨rfl, ?_, rfl, ?_, rfl, ?_, rfl, ?_, trivial⟩
    all_goals first | exact (g1 _ _ k1).symm | exact (g2 _ _ k1).symm | exact (g3 _ _ k2).symm | exact (g4 _ _ k2).symm | exact (g1 _ _ k3).symm | exact (g2 _ _ k3).symm | exact (g3 _ _ k4).symm | exact (g4 _ _ k4).symm
  · cases hp
end Go.Proofs.Ytemoagpahhdoeaa
