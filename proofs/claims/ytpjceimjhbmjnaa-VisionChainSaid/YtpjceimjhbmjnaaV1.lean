/- Keys and tuples: what the small functions answer, as functions on numbers. No condition. -/
import Derived.Test.YtpjceimjhbmjnaaV0
namespace Go.Proofs.Ytpjceimjhbmjnaa
open Go.Sy
set_option linter.unusedSimpArgs false
set_option linter.unusedVariables false
set_option maxRecDepth 100000

/-- A tuple. -/
structure Tup where
  row : Int
  a : Int
  b : Int
  x0 : Int
  x1 : Int
  y0 : Int
  y1 : Int
  v : Int
def tupS (t : Tup) : SE := .agg [.val (.int .u32 t.row), .val (.int .u64 t.a), .val (.int .u64 t.b), .val (.int .i64 t.x0), .val (.int .i64 t.x1), .val (.int .i64 t.y0), .val (.int .i64 t.y1), .val (.int .i64 t.v)]
def vi (n : Int) : Value := .int .i64 n
def vu (n : Int) : Value := .int .u64 n
@[irreducible] def boxB (x0 x1 y0 y1 : Int) : Bool := ile x0 x1 && ile y0 y1
@[irreducible] def cmpU (a b : Int) : Int := if ilt a b then -1 else if ilt b a then 1 else 0
@[irreducible] def heapI (t : Tup) : Int := if ieq t.row 0 || ieq t.a 0 || ilt 4294967295 t.a || ilt 4294967295 t.b || !boxB t.x0 t.x1 t.y0 t.y1 then 200 else 0
@[irreducible] def tupB (t : Tup) : Bool := ile 1 t.row && ile 1 t.a && ile t.a 4294967295 && ile t.b 4294967295 && boxB t.x0 t.x1 t.y0 t.y1


def boxG : PureG := fun F vs => match vs with
  | [.e (.agg [.val (.int .i64 a), .val (.int .i64 b), .val (.int .i64 c), .val (.int .i64 d)])] => some (.t, sval (.bool (boxB a b c d)))
  | _ => none
theorem box_ok : SpecOK Try.prog 29 (pureS boxG) := by
  refine pure_ok ⟨_, _, Try.func29, rfl, by kernel_rfl⟩ ?_
  intro F vs c v hp hc
  unfold boxG at hp
  split at hp
  · cases hp
    refine ⟨rfl, rfl, fun w hF => ?_⟩
    refine pure_calls (E := ⟨Ty, (fun _ => none), fun k => w.heap[k]?, 15, []⟩) Try.func29 rfl mixed Ty_ok (specs_nil _) rfl (by kernel_rfl) rfl rfl rfl ?_
    repeat' first | (refine ⟨fun _ => ?_, fun _ => ?_⟩) | (refine ⟨(by kernel_rfl : drawB _ _ = true), ?_⟩) | fail
    all_goals first | (refine ⟨?_, trivial⟩; simp_all [boxB]; done) | (refine ⟨rfl, ?_, trivial⟩; simp_all [boxB]; done) | (exfalso; simp_all [boxB]; done) | trace_state
  · cases hp
def sp1 : Specs := consSp 29 (pureS boxG) (fun _ => none)
theorem sp1_ok : SpecsOK Try.prog sp1 := specs_cons box_ok (specs_nil _)

def rboxG : PureG := fun F vs => match vs with
  | [.e (.agg [.val (.int .i64 a), .val (.int .i64 b), .val (.int .i64 c), .val (.int .i64 d)])] => some (.t, sval (.bool (boxB a b c d)))
  | _ => none
theorem rbox_ok : SpecOK Try.prog 23 (pureS rboxG) := by
  refine pure_ok ⟨_, _, Try.func23, rfl, by kernel_rfl⟩ ?_
  intro F vs c v hp hc
  unfold rboxG at hp
  split at hp
  · cases hp
    refine ⟨rfl, rfl, fun w hF => ?_⟩
    refine pure_calls (E := ⟨Ty, sp1, fun k => w.heap[k]?, 15, []⟩) Try.func23 rfl mixed Ty_ok sp1_ok rfl (by kernel_rfl) rfl rfl rfl ?_
    repeat' first | (refine ⟨fun _ => ?_, fun _ => ?_⟩) | (refine ⟨(by kernel_rfl : drawB _ _ = true), ?_⟩) | fail
    all_goals first | (refine ⟨?_, trivial⟩; simp_all [boxB]; done) | (refine ⟨rfl, ?_, trivial⟩; simp_all [boxB]; done) | (exfalso; simp_all [boxB]; done) | trace_state
  · cases hp
def sp2 : Specs := consSp 23 (pureS rboxG) sp1
theorem sp2_ok : SpecsOK Try.prog sp2 := specs_cons rbox_ok sp1_ok

def nanG : PureG := fun F vs => match vs with
  | [.e (.c (.val (.int .u64 _)))] => some (.t, sval (.bool false))
  | _ => none
theorem nan_ok : SpecOK Try.prog 30 (pureS nanG) := by
  refine pure_ok ⟨_, _, Try.func30, rfl, by kernel_rfl⟩ ?_
  intro F vs c v hp hc
  unfold nanG at hp
  split at hp
  · cases hp
    refine ⟨rfl, rfl, fun w hF => ?_⟩
    refine pure_calls (E := ⟨Ty, sp2, fun k => w.heap[k]?, 6, []⟩) Try.func30 rfl mixed Ty_ok sp2_ok rfl (by kernel_rfl) rfl rfl rfl ?_
    repeat' first | (refine ⟨fun _ => ?_, fun _ => ?_⟩) | (refine ⟨(by kernel_rfl : drawB _ _ = true), ?_⟩) | fail
    all_goals first | (refine ⟨?_, trivial⟩; simp_all [ine]; done) | (refine ⟨rfl, ?_, trivial⟩; simp_all [ine]; done) | (exfalso; simp_all [ine]; done) | trace_state
  · cases hp
def sp3 : Specs := consSp 30 (pureS nanG) sp2
theorem sp3_ok : SpecsOK Try.prog sp3 := specs_cons nan_ok sp2_ok

def cmpG : PureG := fun F vs => match vs with
  | [.e (.c (.val (.int .u64 a))), .e (.c (.val (.int .u64 b)))] => some (.t, sval (vi (cmpU a b)))
  | _ => none
theorem cmp_ok : SpecOK Try.prog 28 (pureS cmpG) := by
  refine pure_ok ⟨_, _, Try.func28, rfl, by kernel_rfl⟩ ?_
  intro F vs c v hp hc
  unfold cmpG at hp
  split at hp
  · cases hp
    refine ⟨rfl, rfl, fun w hF => ?_⟩
    refine pure_calls (E := ⟨Ty, sp3, fun k => w.heap[k]?, 20, []⟩) Try.func28 rfl mixed Ty_ok sp3_ok rfl (by kernel_rfl) rfl rfl rfl ?_
    repeat' first | (refine ⟨fun _ => ?_, fun _ => ?_⟩) | (refine ⟨(by kernel_rfl : drawB _ _ = true), ?_⟩) | fail
    all_goals first | (refine ⟨?_, trivial⟩; simp_all [cmpU]; done) | (refine ⟨rfl, ?_, trivial⟩; simp_all [cmpU]; done) | (exfalso; simp_all [cmpU]; done) | trace_state
  · cases hp
def sp4 : Specs := consSp 28 (pureS cmpG) sp3
theorem sp4_ok : SpecsOK Try.prog sp4 := specs_cons cmp_ok sp3_ok

def cmp1G : PureG := fun F vs => match vs with
  | [.e (.agg [.val (.int .u64 a), .val (.int .u64 _)]), .e (.c (.val (.int .u64 b)))] => some (.t, sval (vi (cmpU a b)))
  | _ => none
theorem cmp1_ok : SpecOK Try.prog 27 (pureS cmp1G) := by
  refine pure_ok ⟨_, _, Try.func27, rfl, by kernel_rfl⟩ ?_
  intro F vs c v hp hc
  unfold cmp1G at hp
  split at hp
  · cases hp
    refine ⟨rfl, rfl, fun w hF => ?_⟩
    refine pure_calls (E := ⟨Ty, sp4, fun k => w.heap[k]?, 9, []⟩) Try.func27 rfl mixed Ty_ok sp4_ok rfl (by kernel_rfl) rfl rfl rfl ?_
    exact ⟨rfl, rfl, trivial⟩
  · cases hp
def sp5 : Specs := consSp 27 (pureS cmp1G) sp4
theorem sp5_ok : SpecsOK Try.prog sp5 := specs_cons cmp1_ok sp4_ok

def kchkG : PureG := fun F vs => match vs with
  | [.e (.c (.val (.int .i64 1))), .e (.agg [.val (.int .i64 a), .val (.int .i64 b), .val (.int .i64 c), .val (.int .i64 d)])] => some (.t, sval (vi (if boxB a b c d then 0 else 2)))
  | _ => none
theorem kchk_ok : SpecOK Try.prog 25 (pureS kchkG) := by
  refine pure_ok ⟨_, _, Try.func25, rfl, by kernel_rfl⟩ ?_
  intro F vs c v hp hc
  unfold kchkG at hp
  split at hp
  · cases hp
    refine ⟨rfl, rfl, fun w hF => ?_⟩
    refine pure_calls (E := ⟨Ty, sp5, fun k => w.heap[k]?, 43, []⟩) Try.func25 rfl mixed Ty_ok sp5_ok rfl (by kernel_rfl) rfl rfl rfl ?_
    refine ⟨fun _ => ?_, fun h => by simp [ieq] at h⟩
    repeat' first | (refine ⟨fun _ => ?_, fun _ => ?_⟩) | (refine ⟨(by kernel_rfl : drawB _ _ = true), ?_⟩) | fail
    all_goals first | (refine ⟨?_, trivial⟩; simp_all [ieq]; done) | (refine ⟨rfl, ?_, trivial⟩; simp_all [ieq]; done) | (exfalso; simp_all [ieq]; done) | trace_state
  · cases hp
def sp6 : Specs := consSp 25 (pureS kchkG) sp5
theorem sp6_ok : SpecsOK Try.prog sp6 := specs_cons kchk_ok sp5_ok

def heapG : PureG := fun F vs => match vs with
  | [.e (.agg [.val (.int .u32 r), .val (.int .u64 a), .val (.int .u64 b), .val (.int .i64 c), .val (.int .i64 d), .val (.int .i64 f), .val (.int .i64 g), .val (.int .i64 h)])] => some (.t, sval (vi (heapI ⟨r, a, b, c, d, f, g, h⟩)))
  | _ => none
set_option maxHeartbeats 1000000 in
theorem heap_ok : SpecOK Try.prog 19 (pureS heapG) := by
  refine pure_ok ⟨_, _, Try.func19, rfl, by kernel_rfl⟩ ?_
  intro F vs c v hp hc
  unfold heapG at hp
  split at hp
  · cases hp
    refine ⟨rfl, rfl, fun w hF => ?_⟩
    refine pure_calls (E := ⟨Ty, sp6, fun k => w.heap[k]?, 27, []⟩) Try.func19 rfl mixed Ty_ok sp6_ok rfl (by kernel_rfl) rfl rfl rfl ?_
    repeat' first | (refine ⟨fun _ => ?_, fun _ => ?_⟩) | (refine ⟨(by kernel_rfl : drawB _ _ = true), ?_⟩) | fail
    all_goals first | (refine ⟨?_, trivial⟩; simp_all [heapI, ine, ieq]; done) | (refine ⟨rfl, ?_, trivial⟩; simp_all [heapI, ine, ieq]; done) | (exfalso; simp_all [heapI, ine, ieq]; done) | trace_state
  · cases hp
def sp7 : Specs := consSp 19 (pureS heapG) sp6
theorem sp7_ok : SpecsOK Try.prog sp7 := specs_cons heap_ok sp6_ok

def tupG : PureG := fun F vs => match vs with
  | [.e (.agg [.val (.int .u32 r), .val (.int .u64 a), .val (.int .u64 b), .val (.int .i64 c), .val (.int .i64 d), .val (.int .i64 f), .val (.int .i64 g), .val (.int .i64 h)])] => some (.t, sval (.bool (tupB ⟨r, a, b, c, d, f, g, h⟩)))
  | _ => none
set_option maxHeartbeats 1000000 in
theorem tup_ok : SpecOK Try.prog 15 (pureS tupG) := by
  refine pure_ok ⟨_, _, Try.func15, rfl, by kernel_rfl⟩ ?_
  intro F vs c v hp hc
  unfold tupG at hp
  split at hp
  · cases hp
    refine ⟨rfl, rfl, fun w hF => ?_⟩
    refine pure_calls (E := ⟨Ty, sp7, fun k => w.heap[k]?, 26, []⟩) Try.func15 rfl mixed Ty_ok sp7_ok rfl (by kernel_rfl) rfl rfl rfl ?_
    repeat' first | (refine ⟨fun _ => ?_, fun _ => ?_⟩) | (refine ⟨(by kernel_rfl : drawB _ _ = true), ?_⟩) | fail
    all_goals first | (refine ⟨?_, trivial⟩; simp_all [tupB]; done) | (refine ⟨rfl, ?_, trivial⟩; simp_all [tupB]; done) | (exfalso; simp_all [tupB]; done) | trace_state
  · cases hp
def sp8 : Specs := consSp 15 (pureS tupG) sp7
theorem sp8_ok : SpecsOK Try.prog sp8 := specs_cons tup_ok sp7_ok
end Go.Proofs.Ytpjceimjhbmjnaa
