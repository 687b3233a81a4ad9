/- What counts, what is seen, what is dead: the program's functions and the document's. No condition. -/
import Derived.Test.YtpjceimjhbmjnaaV6
namespace Go.Proofs.Ytpjceimjhbmjnaa
open Go.Sy
set_option linter.unusedSimpArgs false
set_option linter.unusedVariables false
set_option maxRecDepth 100000

theorem chk_ne {first : Int} {l : List (Int × Int)} : (ine (chkI first l) 0 = true ↔ okF first l = false) ∧ (ine (chkI first l) 0 = false ↔ okF first l = true) ∧ (ieq (chkI first l) 0 = true ↔ okF first l = true) ∧ (ieq (chkI first l) 0 = false ↔ okF first l = false) := by
  unfold chkI
  cases okF first l <;> simp [ine, ieq]
theorem heap_ne {t : Tup} : (ine (heapI t) 0 = true ↔ ieq (heapI t) 0 = false) ∧ (ine (heapI t) 0 = false ↔ ieq (heapI t) 0 = true) := by
  simp [ine, ieq]
@[irreducible] def errE (first : Int) (l : List (Int × Int)) (t : Tup) : Int := if okF first l then (if ieq (heapI t) 0 then 0 else 200) else 270
@[irreducible] def seenV (e : Ey) (first : Int) (l : List (Int × Int)) (t : Tup) : Bool := okF first l && ieq (heapI t) 0 && seeB e first l t
@[irreducible] def cntV (e : Ey) (first : Int) (l : List (Int × Int)) (x : Int) : Bool := okF first l && cnt e first l x
@[irreducible] def deadB (h first : Int) (l : List (Int × Int)) (t : Tup) : Bool := (!fateD first l t.a && !fateO first l t.a) || (fateD first l t.b && ile (fateN first l t.b) h)
@[irreducible] def deadV (h first : Int) (l : List (Int × Int)) (t : Tup) : Bool := ieq (errE first l t) 0 && deadB h first l t

def sp13 : Specs := consSp 9 (pureS chkG) sp12
theorem sp13_ok : SpecsOK Try.prog sp13 := specs_cons chk_ok sp12_ok

def countsG : PureG := fun F vs => match vs with
  | [.e (.agg [.val (.int .u64 first), .val (.slice A n _)]), .e (.agg [.val (.int .u64 own), .val (.bool rd), .val (.int .u64 snap)]), .e (.c (.val (.int .u64 x)))] => some (.p (FatesF F A n), sval (.bool (cntV ⟨own, rd, snap⟩ first (fatesOf F A n) x)))
  | _ => none
theorem counts_ok : SpecOK Try.prog 13 (pureS countsG) := by
  refine pure_ok ⟨_, _, Try.func13, rfl, by kernel_rfl⟩ ?_
  intro F vs c v hp hc
  unfold countsG at hp
  split at hp
  · rename_i first A n cap own rd snap x
    cases hp
    refine ⟨rfl, rfl, fun w hF => ?_⟩
    obtain ⟨hK, heq⟩ := fates_mono hF hc
    rw [← heq]
    refine pure_calls (E := ⟨Ty, sp13, fun k => w.heap[k]?, 17, []⟩) Try.func13 rfl mixed Ty_ok sp13_ok rfl (by kernel_rfl) rfl rfl rfl ?_
    refine ⟨hK, ?_⟩
    refine ⟨fun h1 => ?_, fun h1 => ?_⟩
    · have h1' := chk_ne.2.2.1.1 h1
      refine ⟨⟨hK, h1'⟩, ?_⟩
      exact ⟨by simp [cntV, h1'], trivial⟩
    · have h1' := chk_ne.2.2.2.1 h1
      exact ⟨by simp [cntV, h1'], trivial⟩
  · cases hp

def viewG : PureG := fun F vs => match vs with
  | [.e (.agg [.val (.int .u64 first), .val (.slice A n _)]), .e (.agg [.val (.int .u64 own), .val (.bool rd), .val (.int .u64 snap)]), .e (.agg [.val (.int .u32 r), .val (.int .u64 a), .val (.int .u64 b), .val (.int .i64 c), .val (.int .i64 d), .val (.int .i64 f), .val (.int .i64 g), .val (.int .i64 h)])] =>
    some (.p (FatesF F A n), .tup [.c (.val (.bool (seenV ⟨own, rd, snap⟩ first (fatesOf F A n) ⟨r, a, b, c, d, f, g, h⟩))), .c (.val (vi (errE first (fatesOf F A n) ⟨r, a, b, c, d, f, g, h⟩)))])
  | _ => none
theorem view_ok : SpecOK Try.prog 11 (pureS viewG) := by
  refine pure_ok ⟨_, _, Try.func11, rfl, by kernel_rfl⟩ ?_
  intro F vs c v hp hc
  unfold viewG at hp
  split at hp
  · rename_i first A n cap own rd snap r a b c d f g h
    cases hp
    refine ⟨rfl, rfl, fun w hF => ?_⟩
    obtain ⟨hK, heq⟩ := fates_mono hF hc
    rw [← heq]
    refine pure_calls (E := ⟨Ty, sp13, fun k => w.heap[k]?, 21, []⟩) Try.func11 rfl mixed Ty_ok sp13_ok rfl (by kernel_rfl) rfl rfl rfl ?_
    refine ⟨hK, ?_⟩
    refine ⟨fun h1 => ?_, fun h1 => ?_⟩
    · have h1' := chk_ne.1.1 h1
      exact ⟨by simp [seenV, h1'], rfl, by simp [errE, h1'], trivial⟩
    · have h1' := chk_ne.2.1.1 h1
      refine ⟨fun h2 => ?_, fun h2 => ?_⟩
      · have h2' := heap_ne.1.1 h2
        exact ⟨by simp [seenV, h2'], rfl, by simp [errE, h1', h2'], trivial⟩
      · have h2' := heap_ne.2.1 h2
        refine ⟨⟨hK, h1'⟩, ?_⟩
        exact ⟨by simp [seenV, h1', h2'], rfl, by simp [errE, h1', h2'], trivial⟩
  · cases hp
def sp14 : Specs := consSp 11 (pureS viewG) sp13
theorem sp14_ok : SpecsOK Try.prog sp14 := specs_cons view_ok sp13_ok

theorem err_ne {first : Int} {l : List (Int × Int)} {t : Tup} : (ine (errE first l t) 0 = true ↔ ieq (errE first l t) 0 = false) ∧ (ine (errE first l t) 0 = false ↔ ieq (errE first l t) 0 = true) := by
  simp [ine, ieq]
theorem err_ok {first : Int} {l : List (Int × Int)} {t : Tup} : ieq (errE first l t) 0 = true ↔ okF first l = true ∧ ieq (heapI t) 0 = true := by
  unfold errE
  cases okF first l <;> cases h : ieq (heapI t) 0 <;> simp [ieq]
def deadG : PureG := fun F vs => match vs with
  | [.e (.agg [.val (.int .u64 first), .val (.slice A n _)]), .e (.c (.val (.int .u64 z))), .e (.agg [.val (.int .u32 r), .val (.int .u64 a), .val (.int .u64 b), .val (.int .i64 c), .val (.int .i64 d), .val (.int .i64 f), .val (.int .i64 g), .val (.int .i64 h)])] =>
    some (.p (FatesF F A n), .tup [.c (.val (.bool (deadV z first (fatesOf F A n) ⟨r, a, b, c, d, f, g, h⟩))), .c (.val (vi (errE first (fatesOf F A n) ⟨r, a, b, c, d, f, g, h⟩)))])
  | _ => none
theorem dead_ok : SpecOK Try.prog 17 (pureS deadG) := by
  refine pure_ok ⟨_, _, Try.func17, rfl, by kernel_rfl⟩ ?_
  intro F vs c v hp hc
  unfold deadG at hp
  split at hp
  · rename_i first A n cap z r a b c d f g h
    cases hp
    refine ⟨rfl, rfl, fun w hF => ?_⟩
    obtain ⟨hK, heq⟩ := fates_mono hF hc
    rw [← heq]
    refine pure_calls (E := ⟨Ty, sp14, fun k => w.heap[k]?, 56, []⟩) Try.func17 rfl mixed Ty_ok sp14_ok rfl (by kernel_rfl) rfl rfl rfl ?_
    refine ⟨hK, ?_⟩
    refine ⟨fun h1 => ?_, fun h1 => ?_⟩
    · have h1' := err_ne.1.1 h1
      exact ⟨by simp [deadV, h1'], rfl, rfl, trivial⟩
    · have h1' := err_ne.2.1 h1
      have h2' := (err_ok.1 h1').1
      have hE : (0 : Int) = errE first (fatesOf (fun k => w.heap[k]?) A n) ⟨r, a, b, c, d, f, g, h⟩ := by
        have q := h1'
        unfold ieq at q
        exact (eq_of_beq q).symm
      refine ⟨⟨hK, h2'⟩, ?_⟩
      refine ⟨⟨hK, h2'⟩, ?_⟩
      repeat' first | (refine ⟨fun _ => ?_, fun _ => ?_⟩) | fail
      all_goals refine ⟨?_, rfl, hE, trivial⟩
      all_goals simp_all [deadV, deadB]
  · cases hp

/-! ### The document's -/
def sp15 : Specs := consSp 22 (pureS rfG) (consSp 12 (pureS rightG) sp8)
theorem sp15_ok : SpecsOK Try.prog sp15 := specs_cons rf_ok (specs_cons right_ok sp8_ok)
@[irreducible] def rcnt (e : Ey) (first : Int) (l : List (Int × Int)) (x : Int) : Bool := if e.reads then ieq (rfK first l x) 1 && ile (rfN first l x) e.snap else ieq (rfK first l x) 1 || (ine x 0 && ieq x e.own)
@[irreducible] def rsee (e : Ey) (first : Int) (l : List (Int × Int)) (t : Tup) : Bool := rcnt e first l t.a && !rcnt e first l t.b
@[irreducible] def rdead (h first : Int) (l : List (Int × Int)) (t : Tup) : Bool := ieq (rfK first l t.a) 3 || (ieq (rfK first l t.b) 1 && ile (rfN first l t.b) h)
def rcntG : PureG := fun F vs => match vs with
  | [.e (.agg [.val (.int .u64 first), .val (.slice A n _)]), .e (.agg [.val (.int .u64 own), .val (.bool rd), .val (.int .u64 snap)]), .e (.c (.val (.int .u64 x)))] => some (.p (n ≤ 500 ∧ FatesF F A n), sval (.bool (rcnt ⟨own, rd, snap⟩ first (fatesOf F A n) x)))
  | _ => none
theorem rcnt_ok : SpecOK Try.prog 14 (pureS rcntG) := by
  refine pure_ok ⟨_, _, Try.func14, rfl, by kernel_rfl⟩ ?_
  intro F vs c v hp hc
  unfold rcntG at hp
  split at hp
  · rename_i first A n cap own rd snap x
    cases hp
    refine ⟨rfl, rfl, fun w hF => ?_⟩
    obtain ⟨hn, hc⟩ := hc
    obtain ⟨hK, heq⟩ := fates_mono hF hc
    rw [← heq]
    refine pure_calls (E := ⟨Ty, sp15, fun k => w.heap[k]?, 37, []⟩) Try.func14 rfl mixed Ty_ok sp15_ok rfl (by kernel_rfl) rfl rfl rfl ?_
    refine ⟨⟨hn, hK⟩, ?_⟩
    repeat' first | (refine ⟨fun _ => ?_, fun _ => ?_⟩) | fail
    all_goals refine ⟨?_, trivial⟩
    all_goals simp_all [rcnt]
  · cases hp
def sp16 : Specs := consSp 14 (pureS rcntG) sp15
theorem sp16_ok : SpecsOK Try.prog sp16 := specs_cons rcnt_ok sp15_ok
def rseeG : PureG := fun F vs => match vs with
  | [.e (.agg [.val (.int .u64 first), .val (.slice A n _)]), .e (.agg [.val (.int .u64 own), .val (.bool rd), .val (.int .u64 snap)]), .e (.agg [.val (.int .u32 r), .val (.int .u64 a), .val (.int .u64 b), .val (.int .i64 c), .val (.int .i64 d), .val (.int .i64 f), .val (.int .i64 g), .val (.int .i64 h)])] =>
    some (.p (n ≤ 500 ∧ FatesF F A n), sval (.bool (rsee ⟨own, rd, snap⟩ first (fatesOf F A n) ⟨r, a, b, c, d, f, g, h⟩)))
  | _ => none
theorem rsee_ok : SpecOK Try.prog 16 (pureS rseeG) := by
  refine pure_ok ⟨_, _, Try.func16, rfl, by kernel_rfl⟩ ?_
  intro F vs c v hp hc
  unfold rseeG at hp
  split at hp
  · rename_i first A n cap own rd snap r a b c d f g h
    cases hp
    refine ⟨rfl, rfl, fun w hF => ?_⟩
    obtain ⟨hn, hc⟩ := hc
    obtain ⟨hK, heq⟩ := fates_mono hF hc
    rw [← heq]
    refine pure_calls (E := ⟨Ty, sp16, fun k => w.heap[k]?, 20, []⟩) Try.func16 rfl mixed Ty_ok sp16_ok rfl (by kernel_rfl) rfl rfl rfl ?_
    refine ⟨⟨hn, hK⟩, ?_⟩
    refine ⟨fun h1 => ?_, fun h1 => ?_⟩
    · refine ⟨⟨hn, hK⟩, ?_⟩
      exact ⟨by simp [rsee, h1], trivial⟩
    · exact ⟨by simp [rsee, h1], trivial⟩
  · cases hp
def rdeadG : PureG := fun F vs => match vs with
  | [.e (.agg [.val (.int .u64 first), .val (.slice A n _)]), .e (.c (.val (.int .u64 z))), .e (.agg [.val (.int .u32 r), .val (.int .u64 a), .val (.int .u64 b), .val (.int .i64 c), .val (.int .i64 d), .val (.int .i64 f), .val (.int .i64 g), .val (.int .i64 h)])] =>
    some (.p (n ≤ 500 ∧ FatesF F A n), sval (.bool (rdead z first (fatesOf F A n) ⟨r, a, b, c, d, f, g, h⟩)))
  | _ => none
theorem rdead_ok : SpecOK Try.prog 18 (pureS rdeadG) := by
  refine pure_ok ⟨_, _, Try.func18, rfl, by kernel_rfl⟩ ?_
  intro F vs c v hp hc
  unfold rdeadG at hp
  split at hp
  · rename_i first A n cap z r a b c d f g h
    cases hp
    refine ⟨rfl, rfl, fun w hF => ?_⟩
    obtain ⟨hn, hc⟩ := hc
    obtain ⟨hK, heq⟩ := fates_mono hF hc
    rw [← heq]
    refine pure_calls (E := ⟨Ty, sp15, fun k => w.heap[k]?, 36, []⟩) Try.func18 rfl mixed Ty_ok sp15_ok rfl (by kernel_rfl) rfl rfl rfl ?_
    refine ⟨⟨hn, hK⟩, ?_⟩
    refine ⟨⟨hn, hK⟩, ?_⟩
    repeat' first | (refine ⟨fun _ => ?_, fun _ => ?_⟩) | fail
    all_goals refine ⟨?_, trivial⟩
    all_goals simp_all [rdead]
  · cases hp
end Go.Proofs.Ytpjceimjhbmjnaa
