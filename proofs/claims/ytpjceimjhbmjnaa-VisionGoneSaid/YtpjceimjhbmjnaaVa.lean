/- VisionCounts and VisionDead, walked. No condition. -/
import Derived.Test.YtpjceimjhbmjnaaV9
namespace Go.Proofs.Ytpjceimjhbmjnaa
open Go.Sy
open Go.RowKit (Below)
set_option linter.unusedSimpArgs false
set_option linter.unusedVariables false
set_option maxRecDepth 100000

def fatesVal (first : Int) (A : Option Addr) (n c : Nat) : Value := .agg #[vu first, .slice A n c]
def eyeVal (e : Ey) : Value := .agg #[vu e.own, .bool e.reads, vu e.snap]
def tupVal (t : Tup) : Value := .agg #[.int .u32 t.row, vu t.a, vu t.b, vi t.x0, vi t.x1, vi t.y0, vi t.y1, vi t.v]
def fatesSE (first : Int) (A : Option Addr) (n c : Nat) : SV := .e (.agg [.val (vu first), .val (.slice A n c)])

theorem lawCounts (w : World) (first : Int) (A : Option Addr) (n cap : Nat) (e : Ey) (t : Tup) (hK : FatesF (fun k => w.heap[k]?) A n) (hf : 0 ≤ first) (ht : TupW t) :
    Calls Try.prog 3 #[fatesVal first A n cap, eyeVal e, tupVal t] w fun e w' => e = .returned (.bool true) ∧ Below w.heap.size w w' := by
  have hlen := fatesOf_len (fun k => w.heap[k]?) A n
  have hw : WfL (fatesOf (fun k => w.heap[k]?) A n) := fates_wf hK
  have hR := flat_R hw
  rw [hlen] at hR
  obtain ⟨hR1, hR2⟩ := hR
  refine pure_calls (vs := [fatesSE first A n cap, .e (eyS e), .e (tupS t)]) (v := sval (.bool true)) (E := ⟨Ty, sp21, fun k => w.heap[k]?, 98, []⟩) Try.func3 rfl mixed Ty_ok sp21_ok rfl (by kernel_rfl) rfl rfl rfl ?_
  refine ⟨fun h => (no_t h (by kernel_rfl)).elim, fun _ => ?_⟩
  refine ⟨fun g0 => ⟨rfl, trivial⟩, fun g0 => ?_⟩
  have hn : n ≤ 500 := by simp [ilt] at g0; omega
  have e1 := fun h => @cnt_eq first (fatesOf (fun k => w.heap[k]?) A n) h hw e t.a ht.a
  have e2 := fun h => @cnt_eq first (fatesOf (fun k => w.heap[k]?) A n) h hw e t.b ht.b
  have e3 := fun h => @see_eq first (fatesOf (fun k => w.heap[k]?) A n) h hw e t ht
  have e4 := heap_tup ht
  refine ⟨⟨hK, hn⟩, ?_⟩
  refine ⟨⟨rfl, hR1⟩, ?_⟩
  refine ⟨⟨hK, hn⟩, ?_⟩
  refine ⟨⟨rfl, hR1⟩, ?_⟩
  refine ⟨by kernel_rfl, ?_⟩
  refine ⟨⟨hf, hK⟩, ?_⟩
  refine ⟨fun h1 => ?_, fun h1 => ?_⟩
  · have h1' : okF first (fatesOf (fun k => w.heap[k]?) A n) = false := by simpa using h1
    refine ⟨fun h2 => ?_, fun h2 => ?_⟩
    rotate_left
    · exfalso
      have h2' : ieq (chkI first (fatesR (flat (fatesOf (fun k => w.heap[k]?) A n)) n)) 270 = false := h2
      rw [hR2, chk_270, h1'] at h2'
      cases h2'
    refine ⟨fun h3 => ?_, fun h3 => ?_⟩
    rotate_left
    · exfalso
      have h3' : (!seenV e first (fatesR (flat (fatesOf (fun k => w.heap[k]?) A n)) n) t) = false := h3
      rw [hR2] at h3'
      simp [seenV, h1'] at h3'
    refine ⟨fun h4 => ?_, fun h4 => ?_⟩
    rotate_left
    · exfalso
      have h4' : ieq (errE first (fatesR (flat (fatesOf (fun k => w.heap[k]?) A n)) n) t) 270 = false := h4
      rw [hR2, err_270, h1'] at h4'
      cases h4'
    refine ⟨⟨hK, hn⟩, ?_⟩
    refine ⟨⟨rfl, hR1⟩, ?_⟩
    refine ⟨by kernel_rfl, ?_⟩
    refine ⟨(show (!cntV e first (fatesR (flat (fatesOf (fun k => w.heap[k]?) A n)) n) t.a) = true from by rw [hR2]; simp [cntV, h1']), trivial⟩
  · have h1' : okF first (fatesOf (fun k => w.heap[k]?) A n) = true := by simpa using h1
    refine ⟨fun h2 => ?_, fun h2 => ?_⟩
    · exfalso
      have h2' : ine (chkI first (fatesR (flat (fatesOf (fun k => w.heap[k]?) A n)) n)) 0 = true := h2
      rw [hR2, chk_0, h1'] at h2'
      cases h2'
    refine ⟨⟨hK, hn⟩, ?_⟩
    refine ⟨⟨rfl, hR1⟩, ?_⟩
    refine ⟨⟨hn, hK⟩, ?_⟩
    refine ⟨fun h3 => ?_, fun h3 => ?_⟩
    · exfalso
      have h3' : (!bEq (cntV e first (fatesR (flat (fatesOf (fun k => w.heap[k]?) A n)) n) t.a) (rcnt e first (fatesOf (fun k => w.heap[k]?) A n) t.a)) = true := h3
      rw [hR2, e1 h1'] at h3'
      simp [cntV, h1', bEq] at h3'
    refine ⟨⟨hK, hn⟩, ?_⟩
    refine ⟨⟨rfl, hR1⟩, ?_⟩
    refine ⟨⟨hn, hK⟩, ?_⟩
    refine ⟨by kernel_rfl, ?_⟩
    refine ⟨fun h4 => ?_, fun h4 => ?_⟩
    · exfalso
      have h4' : (!bEq (cntV e first (fatesR (flat (fatesOf (fun k => w.heap[k]?) A n)) n) t.b) (rcnt e first (fatesOf (fun k => w.heap[k]?) A n) t.b)) = true := h4
      rw [hR2, e2 h1'] at h4'
      simp [cntV, h1', bEq] at h4'
    refine ⟨fun h5 => ?_, fun h5 => ?_⟩
    · have h5' : ieq (heapI t) 0 = false := by rw [e4]; simpa using h5
      refine ⟨fun h6 => ?_, fun h6 => ?_⟩
      · refine ⟨(show ieq (errE first (fatesR (flat (fatesOf (fun k => w.heap[k]?) A n)) n) t) 200 = true from by rw [hR2, err_200, h1', h5']; rfl), trivial⟩
      · exfalso
        have h6' : (!seenV e first (fatesR (flat (fatesOf (fun k => w.heap[k]?) A n)) n) t) = false := h6
        rw [hR2] at h6'
        simp [seenV, h5'] at h6'
    · have h5' : ieq (heapI t) 0 = true := by rw [e4]; simpa using h5
      refine ⟨fun h6 => ?_, fun h6 => ?_⟩
      · refine ⟨⟨hn, hK⟩, ?_⟩
        refine ⟨(show bEq (seenV e first (fatesR (flat (fatesOf (fun k => w.heap[k]?) A n)) n) t) (rsee e first (fatesOf (fun k => w.heap[k]?) A n) t) = true from by rw [hR2, e3 h1']; simp [seenV, h1', h5', bEq]), trivial⟩
      · exfalso
        have h6' : ieq (errE first (fatesR (flat (fatesOf (fun k => w.heap[k]?) A n)) n) t) 0 = false := h6
        rw [hR2, err_0, h1', h5'] at h6'
        cases h6'

theorem lawDead (w : World) (first : Int) (A : Option Addr) (n cap : Nat) (z : Int) (t : Tup) (hK : FatesF (fun k => w.heap[k]?) A n) (hf : 0 ≤ first) (ht : TupW t) :
    Calls Try.prog 6 #[fatesVal first A n cap, vu z, tupVal t] w fun e w' => e = .returned (.bool true) ∧ Below w.heap.size w w' := by
  have hlen := fatesOf_len (fun k => w.heap[k]?) A n
  have hw : WfL (fatesOf (fun k => w.heap[k]?) A n) := fates_wf hK
  have hR := flat_R hw
  rw [hlen] at hR
  obtain ⟨hR1, hR2⟩ := hR
  refine pure_calls (vs := [fatesSE first A n cap, sval (vu z), .e (tupS t)]) (v := sval (.bool true)) (E := ⟨Ty, sp21, fun k => w.heap[k]?, 53, []⟩) Try.func6 rfl mixed Ty_ok sp21_ok rfl (by kernel_rfl) rfl rfl rfl ?_
  refine ⟨fun h => (no_t h (by kernel_rfl)).elim, fun _ => ?_⟩
  refine ⟨fun g0 => ⟨rfl, trivial⟩, fun g0 => ?_⟩
  have hn : n ≤ 500 := by simp [ilt] at g0; omega
  have e4 := heap_tup ht
  refine ⟨⟨hK, hn⟩, ?_⟩
  refine ⟨⟨rfl, hR1⟩, ?_⟩
  refine ⟨by kernel_rfl, ?_⟩
  refine ⟨⟨hf, hK⟩, ?_⟩
  refine ⟨fun h1 => ?_, fun h1 => ?_⟩
  · have h1' : okF first (fatesOf (fun k => w.heap[k]?) A n) = false := by simpa using h1
    refine ⟨fun h2 => ?_, fun h2 => ?_⟩
    · refine ⟨(show ieq (errE first (fatesR (flat (fatesOf (fun k => w.heap[k]?) A n)) n) t) 270 = true from by rw [hR2, err_270, h1']; rfl), trivial⟩
    · exfalso
      have h2' : (!deadV z first (fatesR (flat (fatesOf (fun k => w.heap[k]?) A n)) n) t) = false := h2
      rw [hR2] at h2'
      simp [deadV, err_0, h1'] at h2'
  · have h1' : okF first (fatesOf (fun k => w.heap[k]?) A n) = true := by simpa using h1
    refine ⟨fun h5 => ?_, fun h5 => ?_⟩
    · have h5' : ieq (heapI t) 0 = false := by rw [e4]; simpa using h5
      refine ⟨fun h6 => ?_, fun h6 => ?_⟩
      · refine ⟨(show ieq (errE first (fatesR (flat (fatesOf (fun k => w.heap[k]?) A n)) n) t) 200 = true from by rw [hR2, err_200, h1', h5']; rfl), trivial⟩
      · exfalso
        have h6' : (!deadV z first (fatesR (flat (fatesOf (fun k => w.heap[k]?) A n)) n) t) = false := h6
        rw [hR2] at h6'
        simp [deadV, err_0, h5'] at h6'
    · have h5' : tupB t = true := by simpa using h5
      refine ⟨fun h6 => ?_, fun h6 => ?_⟩
      · refine ⟨⟨hn, hK⟩, ?_⟩
        refine ⟨(show bEq (deadV z first (fatesR (flat (fatesOf (fun k => w.heap[k]?) A n)) n) t) (rdead z first (fatesOf (fun k => w.heap[k]?) A n) t) = true from by rw [hR2, dead_eq h1' hw z ht h5']; simp [deadV, err_0, h1', e4, h5', bEq]), trivial⟩
      · exfalso
        have h6' : ieq (errE first (fatesR (flat (fatesOf (fun k => w.heap[k]?) A n)) n) t) 0 = false := h6
        rw [hR2, err_0, h1', e4, h5'] at h6'
        cases h6'
end Go.Proofs.Ytpjceimjhbmjnaa
