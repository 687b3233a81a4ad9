/- Boxes, spans and points as keys, and 128-bit numbers: what each function of the two layers answers, as a function on numbers. No condition. -/
import Derived.Test.YtemoagpahhdoeaaK0
namespace Go.Proofs.Ytemoagpahhdoeaa
open Go.Sy
set_option linter.unusedSimpArgs false
set_option linter.unusedVariables false
set_option maxRecDepth 100000

/-- A key. -/
structure Key where
  x0 : Int
  x1 : Int
  y0 : Int
  y1 : Int
/-- A number of 128 bits. -/
structure Wd where
  hi : Int
  lo : Int
def kv (k : Key) : SE := .agg [.val (.int .i64 k.x0), .val (.int .i64 k.x1), .val (.int .i64 k.y0), .val (.int .i64 k.y1)]
def wv (x : Wd) : SE := .agg [.val (.int .u64 x.hi), .val (.int .u64 x.lo)]
def u64 (x : Int) : SE := .c (.val (.int .u64 x))
def bv (b : Bool) : SE := .c (.val (.bool b))
@[irreducible] def boxB (k : Key) : Bool := ile k.x0 k.x1 && ile k.y0 k.y1
@[irreducible] def uni (a b : Key) : Key := if boxB a && boxB b then ⟨mn a.x0 b.x0, mx a.x1 b.x1, mn a.y0 b.y0, mx a.y1 b.y1⟩ else ⟨0, 0, 0, 0⟩
@[irreducible] def meetsB (a b : Key) : Bool := boxB a && boxB b && ile a.x0 b.x1 && ile b.x0 a.x1 && ile a.y0 b.y1 && ile b.y0 a.y1
@[irreducible] def keqB (a b : Key) : Bool := ieq a.x0 b.x0 && (ieq a.x1 b.x1 && (ieq a.y0 b.y0 && ieq a.y1 b.y1))
@[irreducible] def coversB (a b : Key) : Bool := boxB a && boxB b && keqB (uni a b) a
@[irreducible] def addS (a b c : Int) : Int := iadd .u64 (iadd .u64 a b) c
@[irreducible] def addC (a b c : Int) : Int :=
  if ilt (iadd .u64 (iadd .u64 a b) c) c then (if ilt (iadd .u64 a b) a then iadd .u64 (iadd .u64 0 1) 1 else iadd .u64 0 1) else (if ilt (iadd .u64 a b) a then iadd .u64 0 1 else 0)
def lowW (x : Int) : Int := iand .u64 x 4294967295
def highW (x : Int) : Int := ishr .u64 x 32
@[irreducible] def mulM (a b : Int) : Int := addS (imul .u64 (highW a) (lowW b)) (imul .u64 (lowW a) (highW b)) (highW (imul .u64 (lowW a) (lowW b)))
@[irreducible] def mulO (a b : Int) : Int := addC (imul .u64 (highW a) (lowW b)) (imul .u64 (lowW a) (highW b)) (highW (imul .u64 (lowW a) (lowW b)))
@[irreducible] def mulW (a b : Int) : Wd := ⟨iadd .u64 (iadd .u64 (imul .u64 (highW a) (highW b)) (highW (mulM a b))) (ishl .u64 (mulO a b) 32), ior .u64 (ishl .u64 (mulM a b) 32) (lowW (imul .u64 (lowW a) (lowW b)))⟩
@[irreducible] def widthF (lo hi : Int) : Int := if ilt hi lo then 0 else isub .u64 (iconv .u64 hi) (iconv .u64 lo)
@[irreducible] def areaW (k : Key) : Wd := mulW (widthF k.x0 k.x1) (widthF k.y0 k.y1)
@[irreducible] def addW (a b : Wd) : Wd := ⟨addS a.hi b.hi (addC a.lo b.lo 0), addS a.lo b.lo 0⟩
@[irreducible] def addL (a b : Wd) : Bool := ieq (addC a.hi b.hi (addC a.lo b.lo 0)) 0
@[irreducible] def marginW (k : Key) : Wd := addW ⟨0, widthF k.x0 k.x1⟩ ⟨0, widthF k.y0 k.y1⟩
@[irreducible] def weqB (a b : Wd) : Bool := ieq a.hi b.hi && ieq a.lo b.lo
@[irreducible] def cmpW (a b : Wd) : Int := if weqB a b then 0 else if ilt a.hi b.hi then -1 else if ieq a.hi b.hi && ilt a.lo b.lo then -1 else 1
@[irreducible] def subW (a b : Wd) : Wd := ⟨if ilt a.lo b.lo then isub .u64 (isub .u64 a.hi b.hi) 1 else isub .u64 a.hi b.hi, isub .u64 a.lo b.lo⟩
@[irreducible] def subL (a b : Wd) : Bool := ile 0 (cmpW a b)
/-- An area and a margin. -/
structure Sz where
  area : Wd
  margin : Wd
def sv (s : Sz) : SE := .agg [.val (.int .u64 s.area.hi), .val (.int .u64 s.area.lo), .val (.int .u64 s.margin.hi), .val (.int .u64 s.margin.lo)]
@[irreducible] def ofK (k : Key) : Sz := ⟨areaW k, marginW k⟩
@[irreducible] def belowS (s t : Sz) : Bool := ilt (cmpW s.area t.area) 0 || (ieq (cmpW s.area t.area) 0 && ilt (cmpW s.margin t.margin) 0)
@[irreducible] def growsS (a b : Key) : Sz := ⟨subW (ofK (uni a b)).area (ofK a).area, subW (ofK (uni a b)).margin (ofK a).margin⟩
@[irreducible] def lessB (a b c : Key) : Bool := boxB a && boxB b && boxB c && belowS (growsS a c) (growsS b c)
@[irreducible] def lostW (a b : Wd) : Wd := if subL a b then subW a b else ⟨0, 0⟩
@[irreducible] def wasteS (a b : Key) : Sz := ⟨lostW (lostW (ofK (uni a b)).area (areaW a)) (areaW b), (ofK (uni a b)).margin⟩


def boxG : PureG := fun F vs => match vs with
  | [.e (.agg [.val (.int .i64 a), .val (.int .i64 b), .val (.int .i64 c), .val (.int .i64 d)])] => some (.t, sval (.bool (boxB ⟨a, b, c, d⟩)))
  | _ => none
theorem box_ok : SpecOK Try.prog 22 (pureS boxG) := by
  refine pure_ok ⟨_, _, Try.func22, rfl, by kernel_rfl⟩ ?_
  intro F vs c v hp hc
  unfold boxG at hp
  split at hp
  · cases hp
    refine ⟨rfl, rfl, fun w hF => ?_⟩
    refine pure_calls (E := ⟨Ty, (fun _ => none), fun k => w.heap[k]?, 15, []⟩) Try.func22 rfl mixed Ty_ok (specs_nil _) rfl (by kernel_rfl) rfl rfl rfl ?_
    refine ⟨fun h1 => ?_, fun h1 => ?_⟩
    · refine ⟨?_, trivial⟩
      simp [boxB, h1]
    · refine ⟨?_, trivial⟩
      simp [boxB, h1]
  · cases hp
def sp1 : Specs := consSp 22 (pureS boxG) (fun _ => none)
theorem sp1_ok : SpecsOK Try.prog sp1 := specs_cons box_ok (specs_nil _)

def uniG : PureG := fun F vs => match vs with
  | [.e (.agg [.val (.int .i64 a), .val (.int .i64 b), .val (.int .i64 c), .val (.int .i64 d)]), .e (.agg [.val (.int .i64 a'), .val (.int .i64 b'), .val (.int .i64 c'), .val (.int .i64 d')])] => some (.t, .e (kv (uni ⟨a, b, c, d⟩ ⟨a', b', c', d'⟩)))
  | _ => none
theorem uni_ok : SpecOK Try.prog 15 (pureS uniG) := by
  refine pure_ok ⟨_, _, Try.func15, rfl, by kernel_rfl⟩ ?_
  intro F vs c v hp hc
  unfold uniG at hp
  split at hp
  · cases hp
    refine ⟨rfl, rfl, fun w hF => ?_⟩
    refine pure_calls (E := ⟨Ty, sp1, fun k => w.heap[k]?, 35, []⟩) Try.func15 rfl mixed Ty_ok sp1_ok rfl (by kernel_rfl) rfl rfl rfl ?_
    refine ⟨fun h1 => ?_, fun h1 => ?_⟩
    · refine ⟨rfl, ?_, rfl, ?_, rfl, ?_, rfl, ?_, trivial⟩ <;> simp at h1 <;> simp [uni, h1]
    · refine ⟨fun h2 => ?_, fun h2 => ?_⟩
      · refine ⟨rfl, ?_, rfl, ?_, rfl, ?_, rfl, ?_, trivial⟩ <;> simp at h1 h2 <;> simp [uni, h1, h2]
      · refine ⟨rfl, ?_, rfl, ?_, rfl, ?_, rfl, ?_, trivial⟩ <;> simp at h1 h2 <;> simp [uni, h1, h2]
  · cases hp
def sp2 : Specs := consSp 15 (pureS uniG) sp1
theorem sp2_ok : SpecsOK Try.prog sp2 := specs_cons uni_ok sp1_ok

def meetsG : PureG := fun F vs => match vs with
  | [.e (.agg [.val (.int .i64 a), .val (.int .i64 b), .val (.int .i64 c), .val (.int .i64 d)]), .e (.agg [.val (.int .i64 a'), .val (.int .i64 b'), .val (.int .i64 c'), .val (.int .i64 d')])] => some (.t, sval (.bool (meetsB ⟨a, b, c, d⟩ ⟨a', b', c', d'⟩)))
  | _ => none
theorem meets_ok : SpecOK Try.prog 9 (pureS meetsG) := by
  refine pure_ok ⟨_, _, Try.func9, rfl, by kernel_rfl⟩ ?_
  intro F vs c v hp hc
  unfold meetsG at hp
  split at hp
  · cases hp
    refine ⟨rfl, rfl, fun w hF => ?_⟩
    refine pure_calls (E := ⟨Ty, sp2, fun k => w.heap[k]?, 39, []⟩) Try.func9 rfl mixed Ty_ok sp2_ok rfl (by kernel_rfl) rfl rfl rfl ?_
    refine ⟨fun h1 => ?_, fun h1 => ?_⟩
    rotate_left
    · exact ⟨by simp [meetsB, h1], trivial⟩
    refine ⟨fun h2 => ?_, fun h2 => ?_⟩
    rotate_left
    · exact ⟨by simp [meetsB, h1, h2], trivial⟩
    refine ⟨fun h3 => ?_, fun h3 => ?_⟩
    rotate_left
    · exact ⟨by simp [meetsB, h1, h2, h3], trivial⟩
    refine ⟨fun h4 => ?_, fun h4 => ?_⟩
    rotate_left
    · exact ⟨by simp [meetsB, h1, h2, h3, h4], trivial⟩
    refine ⟨fun h5 => ?_, fun h5 => ?_⟩
    rotate_left
    · exact ⟨by simp [meetsB, h1, h2, h3, h4, h5], trivial⟩
    exact ⟨by simp [meetsB, h1, h2, h3, h4, h5], trivial⟩
  · cases hp
def sp3 : Specs := consSp 9 (pureS meetsG) sp2
theorem sp3_ok : SpecsOK Try.prog sp3 := specs_cons meets_ok sp2_ok

def coversG : PureG := fun F vs => match vs with
  | [.e (.agg [.val (.int .i64 a), .val (.int .i64 b), .val (.int .i64 c), .val (.int .i64 d)]), .e (.agg [.val (.int .i64 a'), .val (.int .i64 b'), .val (.int .i64 c'), .val (.int .i64 d')])] => some (.t, sval (.bool (coversB ⟨a, b, c, d⟩ ⟨a', b', c', d'⟩)))
  | _ => none
theorem covers_ok : SpecOK Try.prog 10 (pureS coversG) := by
  refine pure_ok ⟨_, _, Try.func10, rfl, by kernel_rfl⟩ ?_
  intro F vs c v hp hc
  unfold coversG at hp
  split at hp
  · cases hp
    refine ⟨rfl, rfl, fun w hF => ?_⟩
    refine pure_calls (E := ⟨Ty, sp3, fun k => w.heap[k]?, 18, []⟩) Try.func10 rfl mixed Ty_ok sp3_ok rfl (by kernel_rfl) rfl rfl rfl ?_
    refine ⟨fun h1 => ?_, fun h1 => ?_⟩
    rotate_left
    · refine ⟨by kernel_rfl, ?_⟩
      exact ⟨by simp [coversB, h1], trivial⟩
    refine ⟨fun h2 => ?_, fun h2 => ?_⟩
    rotate_left
    · refine ⟨by kernel_rfl, ?_⟩
      exact ⟨by simp [coversB, h1, h2], trivial⟩
    refine ⟨by kernel_rfl, ?_⟩
    exact ⟨by simp [coversB, keqB, h1, h2], trivial⟩
  · cases hp
def sp4 : Specs := consSp 10 (pureS coversG) sp3
theorem sp4_ok : SpecsOK Try.prog sp4 := specs_cons covers_ok sp3_ok

def addG : PureG := fun F vs => match vs with
  | [.e (.c (.val (.int .u64 a))), .e (.c (.val (.int .u64 b))), .e (.c (.val (.int .u64 c)))] => some (.t, .tup [u64 (addS a b c), u64 (addC a b c)])
  | _ => none
theorem add_ok : SpecOK Try.prog 47 (pureS addG) := by
  refine pure_ok ⟨_, _, Try.func47, rfl, by kernel_rfl⟩ ?_
  intro F vs c v hp hc
  unfold addG at hp
  split at hp
  · cases hp
    refine ⟨rfl, rfl, fun w hF => ?_⟩
    refine pure_calls (E := ⟨Ty, sp4, fun k => w.heap[k]?, 26, []⟩) Try.func47 rfl mixed Ty_ok sp4_ok rfl (by kernel_rfl) rfl rfl rfl ?_
    refine ⟨fun h1 => ?_, fun h1 => ?_⟩
    · refine ⟨fun h2 => ?_, fun h2 => ?_⟩
      · exact ⟨rfl, by simp [addS], rfl, by simp [addC, h1, h2], trivial⟩
      · exact ⟨rfl, by simp [addS], rfl, by simp [addC, h1, h2], trivial⟩
    · refine ⟨fun h2 => ?_, fun h2 => ?_⟩
      · exact ⟨rfl, by simp [addS], rfl, by simp [addC, h1, h2], trivial⟩
      · exact ⟨rfl, by simp [addS], rfl, by simp [addC, h1, h2], trivial⟩
  · cases hp
def sp5 : Specs := consSp 47 (pureS addG) sp4
theorem sp5_ok : SpecsOK Try.prog sp5 := specs_cons add_ok sp4_ok

def mulG : PureG := fun F vs => match vs with
  | [.e (.c (.val (.int .u64 a))), .e (.c (.val (.int .u64 b)))] => some (.t, .e (wv (mulW a b)))
  | _ => none
theorem mul_ok : SpecOK Try.prog 44 (pureS mulG) := by
  refine pure_ok ⟨_, _, Try.func44, rfl, by kernel_rfl⟩ ?_
  intro F vs c v hp hc
  unfold mulG at hp
  split at hp
  · cases hp
    refine ⟨rfl, rfl, fun w hF => ?_⟩
    refine pure_calls (E := ⟨Ty, sp5, fun k => w.heap[k]?, 55, []⟩) Try.func44 rfl mixed Ty_ok sp5_ok rfl (by kernel_rfl) rfl rfl rfl ?_
    refine ⟨by unfold cPos; decide, ?_⟩
    refine ⟨by unfold cPos; decide, ?_⟩
    refine ⟨by unfold cPos; decide, ?_⟩
    refine ⟨by unfold cPos; decide, ?_⟩
    refine ⟨by unfold cPos; decide, ?_⟩
    refine ⟨by unfold cPos; decide, ?_⟩
    refine ⟨by unfold cPos; decide, ?_⟩
    refine ⟨by unfold cPos; decide, ?_⟩
    exact ⟨rfl, by simp [mulW, mulM, mulO, lowW, highW], rfl, by simp [mulW, mulM, mulO, lowW, highW], trivial⟩
  · cases hp
def sp6 : Specs := consSp 44 (pureS mulG) sp5
theorem sp6_ok : SpecsOK Try.prog sp6 := specs_cons mul_ok sp5_ok

def widthG : PureG := fun F vs => match vs with
  | [.e (.c (.val (.int .i64 a))), .e (.c (.val (.int .i64 b)))] => some (.t, sval (.int .u64 (widthF a b)))
  | _ => none
theorem width_ok : SpecOK Try.prog 45 (pureS widthG) := by
  refine pure_ok ⟨_, _, Try.func45, rfl, by kernel_rfl⟩ ?_
  intro F vs c v hp hc
  unfold widthG at hp
  split at hp
  · cases hp
    refine ⟨rfl, rfl, fun w hF => ?_⟩
    refine pure_calls (E := ⟨Ty, sp6, fun k => w.heap[k]?, 13, []⟩) Try.func45 rfl mixed Ty_ok sp6_ok rfl (by kernel_rfl) rfl rfl rfl ?_
    refine ⟨fun h1 => ?_, fun h1 => ?_⟩
    · exact ⟨rfl, by simp [widthF, h1], trivial⟩
    · exact ⟨rfl, by simp [widthF, h1], trivial⟩
  · cases hp
def sp7 : Specs := consSp 45 (pureS widthG) sp6
theorem sp7_ok : SpecsOK Try.prog sp7 := specs_cons width_ok sp6_ok

def areaG : PureG := fun F vs => match vs with
  | [.e (.agg [.val (.int .i64 a), .val (.int .i64 b), .val (.int .i64 c), .val (.int .i64 d)])] => some (.t, .e (wv (areaW ⟨a, b, c, d⟩)))
  | _ => none
theorem area_ok : SpecOK Try.prog 42 (pureS areaG) := by
  refine pure_ok ⟨_, _, Try.func42, rfl, by kernel_rfl⟩ ?_
  intro F vs c v hp hc
  unfold areaG at hp
  split at hp
  · cases hp
    refine ⟨rfl, rfl, fun w hF => ?_⟩
    refine pure_calls (E := ⟨Ty, sp7, fun k => w.heap[k]?, 14, []⟩) Try.func42 rfl mixed Ty_ok sp7_ok rfl (by kernel_rfl) rfl rfl rfl ?_
    refine ⟨by kernel_rfl, ?_⟩
    exact ⟨rfl, by simp [areaW], rfl, by simp [areaW], trivial⟩
  · cases hp
def sp8 : Specs := consSp 42 (pureS areaG) sp7
theorem sp8_ok : SpecsOK Try.prog sp8 := specs_cons area_ok sp7_ok

def addwG : PureG := fun F vs => match vs with
  | [.e (.agg [.val (.int .u64 a), .val (.int .u64 b)]), .e (.agg [.val (.int .u64 a'), .val (.int .u64 b')])] => some (.t, .tup [wv (addW ⟨a, b⟩ ⟨a', b'⟩), bv (addL ⟨a, b⟩ ⟨a', b'⟩)])
  | _ => none
theorem addw_ok : SpecOK Try.prog 46 (pureS addwG) := by
  refine pure_ok ⟨_, _, Try.func46, rfl, by kernel_rfl⟩ ?_
  intro F vs c v hp hc
  unfold addwG at hp
  split at hp
  · cases hp
    refine ⟨rfl, rfl, fun w hF => ?_⟩
    refine pure_calls (E := ⟨Ty, sp8, fun k => w.heap[k]?, 32, []⟩) Try.func46 rfl mixed Ty_ok sp8_ok rfl (by kernel_rfl) rfl rfl rfl ?_
    exact ⟨rfl, by simp [addW], rfl, by simp [addW], by simp [addL], trivial⟩
  · cases hp
def sp9 : Specs := consSp 46 (pureS addwG) sp8
theorem sp9_ok : SpecsOK Try.prog sp9 := specs_cons addw_ok sp8_ok

def marginG : PureG := fun F vs => match vs with
  | [.e (.agg [.val (.int .i64 a), .val (.int .i64 b), .val (.int .i64 c), .val (.int .i64 d)])] => some (.t, .e (wv (marginW ⟨a, b, c, d⟩)))
  | _ => none
theorem margin_ok : SpecOK Try.prog 43 (pureS marginG) := by
  refine pure_ok ⟨_, _, Try.func43, rfl, by kernel_rfl⟩ ?_
  intro F vs c v hp hc
  unfold marginG at hp
  split at hp
  · cases hp
    refine ⟨rfl, rfl, fun w hF => ?_⟩
    refine pure_calls (E := ⟨Ty, sp9, fun k => w.heap[k]?, 22, []⟩) Try.func43 rfl mixed Ty_ok sp9_ok rfl (by kernel_rfl) rfl rfl rfl ?_
    refine ⟨by kernel_rfl, ?_⟩
    exact ⟨rfl, by simp [marginW], rfl, by simp [marginW], trivial⟩
  · cases hp
def sp10 : Specs := consSp 43 (pureS marginG) sp9
theorem sp10_ok : SpecsOK Try.prog sp10 := specs_cons margin_ok sp9_ok

def cmpG : PureG := fun F vs => match vs with
  | [.e (.agg [.val (.int .u64 a), .val (.int .u64 b)]), .e (.agg [.val (.int .u64 a'), .val (.int .u64 b')])] => some (.t, sval (.int .i64 (cmpW ⟨a, b⟩ ⟨a', b'⟩)))
  | _ => none
theorem cmp_ok : SpecOK Try.prog 41 (pureS cmpG) := by
  refine pure_ok ⟨_, _, Try.func41, rfl, by kernel_rfl⟩ ?_
  intro F vs c v hp hc
  unfold cmpG at hp
  split at hp
  · cases hp
    refine ⟨rfl, rfl, fun w hF => ?_⟩
    refine pure_calls (E := ⟨Ty, sp10, fun k => w.heap[k]?, 27, []⟩) Try.func41 rfl mixed Ty_ok sp10_ok rfl (by kernel_rfl) rfl rfl rfl ?_
    refine ⟨fun h1 => ?_, fun h1 => ?_⟩
    · exact ⟨rfl, by unfold cmpW weqB; simp only [h1]; simp, trivial⟩
    refine ⟨fun h2 => ?_, fun h2 => ?_⟩
    · exact ⟨rfl, by unfold cmpW weqB; simp only [h1, h2]; simp, trivial⟩
    refine ⟨fun h3 => ?_, fun h3 => ?_⟩
    · refine ⟨fun h4 => ?_, fun h4 => ?_⟩
      · exact ⟨rfl, by unfold cmpW weqB; rw [h1]; simp [h2, h3, h4], trivial⟩
      · exact ⟨rfl, by unfold cmpW weqB; rw [h1]; simp [h2, h3, h4], trivial⟩
    · exact ⟨rfl, by unfold cmpW weqB; rw [h1]; simp [h2, h3], trivial⟩
  · cases hp
def sp11 : Specs := consSp 41 (pureS cmpG) sp10
theorem sp11_ok : SpecsOK Try.prog sp11 := specs_cons cmp_ok sp10_ok

def subG : PureG := fun F vs => match vs with
  | [.e (.agg [.val (.int .u64 a), .val (.int .u64 b)]), .e (.agg [.val (.int .u64 a'), .val (.int .u64 b')])] => some (.t, .tup [wv (subW ⟨a, b⟩ ⟨a', b'⟩), bv (subL ⟨a, b⟩ ⟨a', b'⟩)])
  | _ => none
theorem sub_ok : SpecOK Try.prog 33 (pureS subG) := by
  refine pure_ok ⟨_, _, Try.func33, rfl, by kernel_rfl⟩ ?_
  intro F vs c v hp hc
  unfold subG at hp
  split at hp
  · cases hp
    refine ⟨rfl, rfl, fun w hF => ?_⟩
    refine pure_calls (E := ⟨Ty, sp11, fun k => w.heap[k]?, 32, []⟩) Try.func33 rfl mixed Ty_ok sp11_ok rfl (by kernel_rfl) rfl rfl rfl ?_
    refine ⟨fun h1 => ?_, fun h1 => ?_⟩
    · refine ⟨by kernel_rfl, ?_⟩
      exact ⟨rfl, by simp [subW, h1], rfl, by simp [subW], by simp [subL], trivial⟩
    · refine ⟨by kernel_rfl, ?_⟩
      exact ⟨rfl, by simp [subW, h1], rfl, by simp [subW], by simp [subL], trivial⟩
  · cases hp
def sp12 : Specs := consSp 33 (pureS subG) sp11
theorem sp12_ok : SpecsOK Try.prog sp12 := specs_cons sub_ok sp11_ok

def ofG : PureG := fun F vs => match vs with
  | [.e (.agg [.val (.int .i64 a), .val (.int .i64 b), .val (.int .i64 c), .val (.int .i64 d)])] => some (.t, .e (sv (ofK ⟨a, b, c, d⟩)))
  | _ => none
theorem of_ok : SpecOK Try.prog 32 (pureS ofG) := by
  refine pure_ok ⟨_, _, Try.func32, rfl, by kernel_rfl⟩ ?_
  intro F vs c v hp hc
  unfold ofG at hp
  split at hp
  · cases hp
    refine ⟨rfl, rfl, fun w hF => ?_⟩
    refine pure_calls (E := ⟨Ty, sp12, fun k => w.heap[k]?, 8, []⟩) Try.func32 rfl mixed Ty_ok sp12_ok rfl (by kernel_rfl) rfl rfl rfl ?_
    refine ⟨by kernel_rfl, ?_⟩
    exact ⟨rfl, by simp [ofK], rfl, by simp [ofK], rfl, by simp [ofK], rfl, by simp [ofK], trivial⟩
  · cases hp
def sp13 : Specs := consSp 32 (pureS ofG) sp12
theorem sp13_ok : SpecsOK Try.prog sp13 := specs_cons of_ok sp12_ok

def belowG : PureG := fun F vs => match vs with
  | [.e (.agg [.val (.int .u64 a), .val (.int .u64 b), .val (.int .u64 c), .val (.int .u64 d)]), .e (.agg [.val (.int .u64 a'), .val (.int .u64 b'), .val (.int .u64 c'), .val (.int .u64 d')])] => some (.t, sval (.bool (belowS ⟨⟨a, b⟩, ⟨c, d⟩⟩ ⟨⟨a', b'⟩, ⟨c', d'⟩⟩)))
  | _ => none
theorem below_ok : SpecOK Try.prog 29 (pureS belowG) := by
  refine pure_ok ⟨_, _, Try.func29, rfl, by kernel_rfl⟩ ?_
  intro F vs c v hp hc
  unfold belowG at hp
  split at hp
  · cases hp
    refine ⟨rfl, rfl, fun w hF => ?_⟩
    refine pure_calls (E := ⟨Ty, sp13, fun k => w.heap[k]?, 25, []⟩) Try.func29 rfl mixed Ty_ok sp13_ok rfl (by kernel_rfl) rfl rfl rfl ?_
    refine ⟨fun h1 => ?_, fun h1 => ?_⟩
    · exact ⟨by simp [belowS, h1], trivial⟩
    refine ⟨fun h2 => ?_, fun h2 => ?_⟩
    · exact ⟨by simp [belowS, h1, h2], trivial⟩
    · exact ⟨by simp [belowS, h1, h2], trivial⟩
  · cases hp
def sp14 : Specs := consSp 29 (pureS belowG) sp13
theorem sp14_ok : SpecsOK Try.prog sp14 := specs_cons below_ok sp13_ok

def growsG : PureG := fun F vs => match vs with
  | [.e (.agg [.val (.int .i64 a), .val (.int .i64 b), .val (.int .i64 c), .val (.int .i64 d)]), .e (.agg [.val (.int .i64 a'), .val (.int .i64 b'), .val (.int .i64 c'), .val (.int .i64 d')])] => some (.t, .e (sv (growsS ⟨a, b, c, d⟩ ⟨a', b', c', d'⟩)))
  | _ => none
theorem grows_ok : SpecOK Try.prog 23 (pureS growsG) := by
  refine pure_ok ⟨_, _, Try.func23, rfl, by kernel_rfl⟩ ?_
  intro F vs c v hp hc
  unfold growsG at hp
  split at hp
  · cases hp
    refine ⟨rfl, rfl, fun w hF => ?_⟩
    refine pure_calls (E := ⟨Ty, sp14, fun k => w.heap[k]?, 33, []⟩) Try.func23 rfl mixed Ty_ok sp14_ok rfl (by kernel_rfl) rfl rfl rfl ?_
    refine ⟨by kernel_rfl, ?_⟩
    exact ⟨rfl, by simp [growsS], rfl, by simp [growsS], rfl, by simp [growsS], rfl, by simp [growsS], trivial⟩
  · cases hp
def sp15 : Specs := consSp 23 (pureS growsG) sp14
theorem sp15_ok : SpecsOK Try.prog sp15 := specs_cons grows_ok sp14_ok

def lessG : PureG := fun F vs => match vs with
  | [.e (.agg [.val (.int .i64 a), .val (.int .i64 b), .val (.int .i64 c), .val (.int .i64 d)]), .e (.agg [.val (.int .i64 a'), .val (.int .i64 b'), .val (.int .i64 c'), .val (.int .i64 d')]), .e (.agg [.val (.int .i64 a''), .val (.int .i64 b''), .val (.int .i64 c''), .val (.int .i64 d'')])] => some (.t, sval (.bool (lessB ⟨a, b, c, d⟩ ⟨a', b', c', d'⟩ ⟨a'', b'', c'', d''⟩)))
  | _ => none
theorem less_ok : SpecOK Try.prog 13 (pureS lessG) := by
  refine pure_ok ⟨_, _, Try.func13, rfl, by kernel_rfl⟩ ?_
  intro F vs c v hp hc
  unfold lessG at hp
  split at hp
  · cases hp
    refine ⟨rfl, rfl, fun w hF => ?_⟩
    refine pure_calls (E := ⟨Ty, sp15, fun k => w.heap[k]?, 26, []⟩) Try.func13 rfl mixed Ty_ok sp15_ok rfl (by kernel_rfl) rfl rfl rfl ?_
    refine ⟨fun h1 => ?_, fun h1 => ?_⟩
    rotate_left
    · refine ⟨by kernel_rfl, ?_⟩
      exact ⟨by simp [lessB, h1], trivial⟩
    refine ⟨fun h2 => ?_, fun h2 => ?_⟩
    rotate_left
    · refine ⟨by kernel_rfl, ?_⟩
      exact ⟨by simp [lessB, h1, h2], trivial⟩
    refine ⟨fun h3 => ?_, fun h3 => ?_⟩
    rotate_left
    · refine ⟨by kernel_rfl, ?_⟩
      exact ⟨by simp [lessB, h1, h2, h3], trivial⟩
    refine ⟨by kernel_rfl, ?_⟩
    exact ⟨by simp [lessB, h1, h2, h3], trivial⟩
  · cases hp
def sp16 : Specs := consSp 13 (pureS lessG) sp15
theorem sp16_ok : SpecsOK Try.prog sp16 := specs_cons less_ok sp15_ok
end Go.Proofs.Ytemoagpahhdoeaa
