/- KeyGrows, walked. No condition. -/
import Derived.Test.YtemoagpahhdoeaaL6
namespace Go.Proofs.Ytemoagpahhdoeaa
open Go.Sy
open Go.RowKit (Below)
set_option linter.unusedSimpArgs false
set_option linter.unusedVariables false
set_option maxRecDepth 100000

theorem uni_wfK {a b : Key} (ha : WfK a) (hb : WfK b) : WfK (uni a b) := by
  cases h1 : boxB a with
  | false =>
    have : uni a b = ⟨0, 0, 0, 0⟩ := by simp [uni, h1]
    rw [this]
    unfold WfK i64B; simp only; omega
  | true =>
    cases h2 : boxB b with
    | false =>
      have : uni a b = ⟨0, 0, 0, 0⟩ := by simp [uni, h2]
      rw [this]
      unfold WfK i64B; simp only; omega
    | true =>
      rw [uni_box h1 h2]
      have q1 := mn_le a.x0 b.x0
      have q2 := mx_le a.x1 b.x1
      have q3 := mn_le a.y0 b.y0
      have q4 := mx_le a.y1 b.y1
      unfold WfK i64B at *
      simp only
      omega
theorem of_is (k : Key) : (ofK k).area = areaW k ∧ (ofK k).margin = marginW k := by unfold ofK; exact ⟨rfl, rfl⟩
theorem grow_wf {a b : Key} (ha : WfK a) (hb : WfK b) : WfW (growW a b).area ∧ WfW (growW a b).margin := by
  have hu := uni_wfK ha hb
  have z : WfW ⟨0, 0⟩ := ⟨by decide, by decide, by decide, by decide⟩
  unfold growW
  split
  · unfold growsS
    simp only
    rw [(of_is _).1, (of_is _).1, (of_is _).2, (of_is _).2]
    exact ⟨sub_wf (area_wf hu).1 (area_wf ha).1, sub_wf (margin_wf hu).1 (margin_wf ha).1⟩
  · exact ⟨z, z⟩

noncomputable def spf : Specs := consSp 25 (pureS uniG) spe
theorem spf_ok : SpecsOK Try.prog spf := specs_cons runi_ok spe_ok
def rgrowG : PureG := fun F vs => match vs with
  | [.e (.agg [.val (.int .i64 a), .val (.int .i64 b), .val (.int .i64 c), .val (.int .i64 d)]), .e (.agg [.val (.int .i64 a'), .val (.int .i64 b'), .val (.int .i64 c'), .val (.int .i64 d')])] => some (.p (WfK ⟨a, b, c, d⟩ ∧ WfK ⟨a', b', c', d'⟩), .tup [wv (growW ⟨a, b, c, d⟩ ⟨a', b', c', d'⟩).area, wv (growW ⟨a, b, c, d⟩ ⟨a', b', c', d'⟩).margin])
  | _ => none
theorem rgrow_ok : SpecOK Try.prog 12 (pureS rgrowG) := by
  refine pure_ok ⟨_, _, Try.func12, rfl, by kernel_rfl⟩ ?_
  intro F vs c v hp hc
  unfold rgrowG at hp
  split at hp
  · rename_i a b c d a' b' c' d'
    cases hp
    obtain ⟨ha, hb⟩ := (show WfK ⟨a, b, c, d⟩ ∧ WfK ⟨a', b', c', d'⟩ from hc)
    have hu := uni_wfK ha hb
    refine ⟨rfl, rfl, fun w hF => ?_⟩
    refine pure_calls (E := ⟨Ty, spf, fun k => w.heap[k]?, 42, []⟩) Try.func12 rfl mixed Ty_ok spf_ok rfl (by kernel_rfl) rfl rfl rfl ?_
    refine ⟨fun h1 => ?_, fun h1 => ?_⟩
    · simp at h1
      exact ⟨rfl, by simp [growW, h1], rfl, by simp [growW, h1], rfl, by simp [growW, h1], rfl, by simp [growW, h1], trivial⟩
    refine ⟨fun h2 => ?_, fun h2 => ?_⟩
    · simp at h1 h2
      exact ⟨rfl, by simp [growW, h1, h2], rfl, by simp [growW, h1, h2], rfl, by simp [growW, h1, h2], rfl, by simp [growW, h1, h2], trivial⟩
    simp at h1 h2
    have hg : growW ⟨a, b, c, d⟩ ⟨a', b', c', d'⟩ = ⟨subW (areaW (uni ⟨a, b, c, d⟩ ⟨a', b', c', d'⟩)) (areaW ⟨a, b, c, d⟩), subW (marginW (uni ⟨a, b, c, d⟩ ⟨a', b', c', d'⟩)) (marginW ⟨a, b, c, d⟩)⟩ := by
      simp [growW, h1, h2, growsS, of_is]
    rw [hg]
    refine ⟨hu, ?_⟩
    refine ⟨ha, ?_⟩
    refine ⟨⟨(area_wf hu).1, (area_wf ha).1⟩, ?_⟩
    refine ⟨by kernel_rfl, ?_⟩
    refine ⟨hu, ?_⟩
    refine ⟨ha, ?_⟩
    refine ⟨⟨(margin_wf hu).1, (margin_wf ha).1⟩, ?_⟩
    refine ⟨by kernel_rfl, ?_⟩
    exact ⟨by kernel_rfl, rfl, rfl, rfl, rfl, rfl, rfl, rfl, rfl, trivial⟩
  · cases hp

@[irreducible] def ordI (a m b n : Wd) : Int := if ine (cmpW a b) 0 then cmpW a b else cmpW m n
def rordG : PureG := fun F vs => match vs with
  | [.e (.agg [.val (.int .u64 a), .val (.int .u64 b)]), .e (.agg [.val (.int .u64 c), .val (.int .u64 d)]), .e (.agg [.val (.int .u64 a'), .val (.int .u64 b')]), .e (.agg [.val (.int .u64 c'), .val (.int .u64 d')])] => some (.p (WfW ⟨a, b⟩ ∧ WfW ⟨c, d⟩ ∧ WfW ⟨a', b'⟩ ∧ WfW ⟨c', d'⟩), .e (.c (.val (vi' (ordI ⟨a, b⟩ ⟨c, d⟩ ⟨a', b'⟩ ⟨c', d'⟩)))))
  | _ => none
theorem rord_ok : SpecOK Try.prog 30 (pureS rordG) := by
  refine pure_ok ⟨_, _, Try.func30, rfl, by kernel_rfl⟩ ?_
  intro F vs c v hp hc
  unfold rordG at hp
  split at hp
  · rename_i a b c d a' b' c' d'
    cases hp
    obtain ⟨w1, w2, w3, w4⟩ := (show WfW ⟨a, b⟩ ∧ WfW ⟨c, d⟩ ∧ WfW ⟨a', b'⟩ ∧ WfW ⟨c', d'⟩ from hc)
    refine ⟨rfl, rfl, fun w hF => ?_⟩
    refine pure_calls (E := ⟨Ty, spf, fun k => w.heap[k]?, 19, []⟩) Try.func30 rfl mixed Ty_ok spf_ok rfl (by kernel_rfl) rfl rfl rfl ?_
    have e1 := cmp_eq w1 w3
    have e2 := cmp_eq w2 w4
    refine ⟨⟨w1, w3⟩, ?_⟩
    refine ⟨fun h1 => ?_, fun h1 => ?_⟩
    · have h1' : ine (cmpN (nw ⟨a, b⟩) (nw ⟨a', b'⟩)) 0 = true := h1
      exact ⟨rfl, by unfold ordI; rw [e1, h1', if_pos rfl], trivial⟩
    · have h1' : ine (cmpN (nw ⟨a, b⟩) (nw ⟨a', b'⟩)) 0 = false := h1
      refine ⟨⟨w2, w4⟩, ?_⟩
      exact ⟨rfl, by unfold ordI; rw [e1, h1', e2, if_neg (by decide)], trivial⟩
  · cases hp
noncomputable def spg : Specs := consSp 12 (pureS rgrowG) (consSp 30 (pureS rordG) spf)
theorem spg_ok : SpecsOK Try.prog spg := specs_cons rgrow_ok (specs_cons rord_ok spf_ok)
theorem ord_below {s t : Sz} : ilt (ordI s.area s.margin t.area t.margin) 0 = belowS s t := by
  unfold ordI belowS
  by_cases h : cmpW s.area t.area = 0
  · have h1 : ine (cmpW s.area t.area) 0 = false := by simp [ine, h]
    have h2 : ieq (cmpW s.area t.area) 0 = true := by simp [ieq, h]
    have h3 : ilt (cmpW s.area t.area) 0 = false := by simp [ilt, h]
    rw [h1, h2, h3]
    simp
  · have h1 : ine (cmpW s.area t.area) 0 = true := by simp [ine, h]
    have h2 : ieq (cmpW s.area t.area) 0 = false := by simp [ieq, h]
    rw [h1, h2]
    simp
def rlessG : PureG := fun F vs => match vs with
  | [.e (.agg [.val (.int .i64 a), .val (.int .i64 b), .val (.int .i64 c), .val (.int .i64 d)]), .e (.agg [.val (.int .i64 a'), .val (.int .i64 b'), .val (.int .i64 c'), .val (.int .i64 d')]), .e (.agg [.val (.int .i64 f), .val (.int .i64 g), .val (.int .i64 h), .val (.int .i64 i)])] =>
    some (.p (WfK ⟨a, b, c, d⟩ ∧ WfK ⟨a', b', c', d'⟩ ∧ WfK ⟨f, g, h, i⟩), .e (bv (lessB ⟨a, b, c, d⟩ ⟨a', b', c', d'⟩ ⟨f, g, h, i⟩)))
  | _ => none
theorem rless_ok : SpecOK Try.prog 14 (pureS rlessG) := by
  refine pure_ok ⟨_, _, Try.func14, rfl, by kernel_rfl⟩ ?_
  intro F vs c v hp hc
  unfold rlessG at hp
  split at hp
  · rename_i a b c d a' b' c' d' f g h i
    cases hp
    obtain ⟨k1, k2, k3⟩ := (show WfK ⟨a, b, c, d⟩ ∧ WfK ⟨a', b', c', d'⟩ ∧ WfK ⟨f, g, h, i⟩ from hc)
    refine ⟨rfl, rfl, fun w hF => ?_⟩
    refine pure_calls (E := ⟨Ty, spg, fun k => w.heap[k]?, 42, []⟩) Try.func14 rfl mixed Ty_ok spg_ok rfl (by kernel_rfl) rfl rfl rfl ?_
    refine ⟨fun h1 => ?_, fun h1 => ?_⟩
    · simp at h1
      exact ⟨by simp [lessB, h1], trivial⟩
    refine ⟨fun h2 => ?_, fun h2 => ?_⟩
    · simp at h2
      exact ⟨by simp [lessB, h2], trivial⟩
    refine ⟨fun h3 => ?_, fun h3 => ?_⟩
    · simp at h3
      exact ⟨by simp [lessB, h3], trivial⟩
    simp at h1 h2 h3
    have g1 := grow_wf k1 k3
    have g2 := grow_wf k2 k3
    refine ⟨⟨k1, k3⟩, ?_⟩
    refine ⟨⟨k2, k3⟩, ?_⟩
    refine ⟨⟨g1.1, g1.2, g2.1, g2.2⟩, ?_⟩
    refine ⟨?_, trivial⟩
    have e : lessB ⟨a, b, c, d⟩ ⟨a', b', c', d'⟩ ⟨f, g, h, i⟩ = belowS (growW ⟨a, b, c, d⟩ ⟨f, g, h, i⟩) (growW ⟨a', b', c', d'⟩ ⟨f, g, h, i⟩) := by
      simp [lessB, growW, h1, h2, h3]
    rw [e, ← ord_below]
  · cases hp
noncomputable def sph : Specs := consSp 12 (pureS rgrowG) (consSp 14 (pureS rlessG) sp26)
theorem sph_ok : SpecsOK Try.prog sph := specs_cons rgrow_ok (specs_cons rless_ok sp26_ok)

theorem grows_law (w : World) (a b c : Key) (ha : WfK a) (hb : WfK b) (hc : WfK c) : Calls Try.prog 5 #[keyVal a, keyVal b, keyVal c] w fun e w' => e = .returned (.bool true) ∧ Below w.heap.size w w' := by
  refine pure_calls (vs := [.e (kv a), .e (kv b), .e (kv c)]) (v := sval (.bool true)) (E := ⟨Ty, sph, fun k => w.heap[k]?, 44, []⟩) Try.func5 rfl mixed Ty_ok sph_ok rfl (by kernel_rfl) rfl rfl rfl ?_
  have q : ∀ x : Int, ieq x x = true := fun x => by simp [ieq]
  refine ⟨fun h => (no_t h (by kernel_rfl)).elim, fun _ => ?_⟩
  refine ⟨⟨ha, hc⟩, ?_⟩
  refine ⟨fun h1 => ?_, fun h1 => ?_⟩
  · refine ⟨fun h2 => ?_, fun h2 => ?_⟩
    · refine ⟨⟨ha, hb, hc⟩, ?_⟩
      refine ⟨by kernel_rfl, (show bEq (lessB a b c) (lessB a b c) = true from by simp [bEq]), trivial⟩
    · exfalso
      have h2' : (ieq (growW a c).margin.hi (growW a c).margin.hi && ieq (growW a c).margin.lo (growW a c).margin.lo) = false := h2
      rw [q, q] at h2'
      cases h2'
  · exfalso
    have h1' : (ieq (growW a c).area.hi (growW a c).area.hi && ieq (growW a c).area.lo (growW a c).area.lo) = false := h1
    rw [q, q] at h1'
    cases h1'
end Go.Proofs.Ytemoagpahhdoeaa
