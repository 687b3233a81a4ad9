/- VisionStays, walked. No condition. -/
import Derived.Test.YtpjceimjhbmjnaaVe
namespace Go.Proofs.Ytpjceimjhbmjnaa
open Go.Sy
open Go.RowKit (Below)
set_option linter.unusedSimpArgs false
set_option linter.unusedVariables false
set_option maxRecDepth 100000

def tupA (t : Tup) : Atom := .blk 32 [.val (.int .u32 t.row), .val (vu t.a), .val (vu t.b), .val (vi t.x0), .val (vi t.x1), .val (vi t.y0), .val (vi t.y1), .val (vi t.v)]
def eyeA (e : Ey) : Atom := .blk 27 [.val (vu e.own), .val (.bool e.reads), .val (vu e.snap)]
def staySt1 (first snap : Int) (A : Option Addr) (n c : Nat) (t : Tup) (was : Bool) (top : Int) (i : Nat) : SS :=
  ⟨[(3, .e (.c (.ptr 3 0))), (5, .e (.c (.ptr 5 0))), (7, .e (.c (.ptr 7 0))), (8, sval (.bool was)), (10, sval (vu top)), (38, sval (.slice A n c)), (39, sval (vi n)), (40, sval (vi i))],
   [(3, .blk 25 [.val (vu first), .val (.slice A n c)]), (5, tupA t), (7, eyeA ⟨0, true, snap⟩)], []⟩
def staySt2 (first snap : Int) (n : Nat) (t : Tup) (was : Bool) (top : Int) (m : List (Int × Int)) (i : Nat) : SS :=
  ⟨[(5, .e (.c (.ptr 5 0))), (7, .e (.c (.ptr 7 0))), (8, sval (.bool was)), (10, sval (vu top)), (13, .e (.c (.ptr 13 0))), (54, .e (.c (.sli 52 n))), (55, sval (vi n)), (56, sval (vi i))],
   [(5, tupA t), (7, eyeA ⟨0, true, snap⟩), (13, .blk 25 [.val (vu first), .sli 52 n]), (52, .row 44 2 n (flat m))], []⟩

theorem cCells_flat {m : List (Int × Int)} {k : Nat} (h : k < m.length) : cCells (flat m) (k * 2 + 1) z1 := by
  intro j c hj
  have hlt : j < 1 := by
    have := (List.getElem?_eq_some_iff.1 hj).1
    rw [rdR_len] at this
    simpa using this
  have : j = 0 := by omega
  subst this
  simp [rdR] at hj
  subst hj
  refine ⟨_, rfl, ?_⟩
  rw [Nat.add_zero, flat_1 h, flat_c1 h]
  rfl
theorem lawStays (w : World) (first : Int) (A : Option Addr) (n cap : Nat) (snap : Int) (t : Tup) (hK : FatesF (fun k => w.heap[k]?) A n) (hf : 0 ≤ first) (hz0 : 0 ≤ snap) (hz1 : snap < 18446744073709551616) (ht : TupW t) :
    Calls Try.prog 4 #[fatesVal first A n cap, vu snap, tupVal t] w fun e w' => e = .returned (.bool true) ∧ Below w.heap.size w w' := by
  have hlen := fatesOf_len (fun k => w.heap[k]?) A n
  have hw : WfL (fatesOf (fun k => w.heap[k]?) A n) := fates_wf hK
  refine pure_calls (vs := [fatesSE first A n cap, sval (vu snap), .e (tupS t)]) (v := sval (.bool true)) (E := ⟨Ty, sp21, fun k => w.heap[k]?, 89, []⟩) Try.func4 rfl mixed Ty_ok sp21_ok rfl (by kernel_rfl) rfl rfl rfl ?_
  refine ⟨fun h => (no_t h (by kernel_rfl)).elim, fun _ => ?_⟩
  refine ⟨fun g0 => ⟨rfl, trivial⟩, fun g0 => ?_⟩
  have hn : n ≤ 500 := by simp [ilt] at g0; omega
  refine ⟨hK, ?_⟩
  refine ⟨fun h1 => ?_, fun h1 => ?_⟩
  · have h1' : ine (errE first (fatesOf (fun k => w.heap[k]?) A n) t) 0 = true := h1
    rw [err_n0] at h1'
    refine ⟨(show (!seenV ⟨0, true, snap⟩ first (fatesOf (fun k => w.heap[k]?) A n) t) = true from ?_), trivial⟩
    simp only [seenV]
    cases hq : (okF first (fatesOf (fun k => w.heap[k]?) A n) && ieq (heapI t) 0) <;> simp_all
  have h1' : ine (errE first (fatesOf (fun k => w.heap[k]?) A n) t) 0 = false := h1
  have h1q := h1'
  rw [err_n0] at h1q
  have hok : okF first (fatesOf (fun k => w.heap[k]?) A n) = true := by
    cases hq : okF first (fatesOf (fun k => w.heap[k]?) A n) <;> simp_all
  refine ⟨{ i : Nat // i ≤ n }, fun i => staySt1 first snap A n cap t (seenV ⟨0, true, snap⟩ first (fatesOf (fun k => w.heap[k]?) A n) t) (topM (fatesOf (fun k => w.heap[k]?) A n) snap i.1) i.1, fun i => n - i.1, ⟨0, by omega⟩, ?_, ?_⟩
  · exact ⟨fun x => x, rfl, rfl, ⟨by kernel_rfl, by kernel_rfl, by kernel_rfl, by kernel_rfl, by kernel_rfl, by kernel_rfl, by kernel_rfl, by kernel_rfl, trivial⟩, ⟨by kernel_rfl, by kernel_rfl, by kernel_rfl, trivial⟩, rfl, rfl, rfl⟩
  · rintro ⟨i, hi⟩
    refine ⟨fun h3 => ?_, fun h3 => ?_⟩
    · have hlt : i < n := by simp [ilt, vi] at h3; omega
      have at_ := at_fates hK hlt
      have e1 := step63 hlt (by omega)
      refine ⟨at_.ix, ?_⟩
      refine ⟨at_.rd, ?_⟩
      refine ⟨⟨i + 1, by omega⟩, ⟨fun x => x, rfl, rfl, ⟨by kernel_rfl, by kernel_rfl, by kernel_rfl, by kernel_rfl, ?_, by kernel_rfl, by kernel_rfl, ?_, trivial⟩, ⟨by kernel_rfl, by kernel_rfl, by kernel_rfl, trivial⟩, rfl, rfl, rfl⟩, by simp; omega⟩
      · exact congrArg (fun q => some (sval (vu (mx (topM (fatesOf (fun k => w.heap[k]?) A n) snap i) q)))) at_.v1
      · exact congrArg (fun q => some (sval (vi q))) e1
    · have hin : i = n := by simp [ilt, vi] at h3; omega
      subst hin
      refine ⟨fun h4 => ⟨rfl, trivial⟩, fun h4 => ?_⟩
      have h4' : topM (fatesOf (fun k => w.heap[k]?) A i) snap (fatesOf (fun k => w.heap[k]?) A i).length ≤ 9223372036854775808 := by
        rw [hlen]; simp [ilt] at h4; omega
      have hst := stay_start (snap := snap) hok hw hz0 h4'
      rw [hlen] at hst
      refine ⟨⟨hK, hn⟩, ?_⟩
      refine ⟨{ p : Nat × List (Int × Int) × Int // p.1 ≤ i ∧ Stay first snap (fatesOf (fun k => w.heap[k]?) A i) p.1 p.2.1 p.2.2 }, fun p => staySt2 first snap i t (seenV ⟨0, true, snap⟩ first (fatesOf (fun k => w.heap[k]?) A i) t) p.1.2.2 p.1.2.1 p.1.1, fun p => i - p.1.1, ⟨(0, fatesOf (fun k => w.heap[k]?) A i, topM (fatesOf (fun k => w.heap[k]?) A i) snap i), by omega, hst⟩, ?_, ?_⟩
      · exact ⟨fun x => x, rfl, rfl, ⟨by kernel_rfl, by kernel_rfl, by kernel_rfl, by kernel_rfl, by kernel_rfl, by kernel_rfl, by kernel_rfl, by kernel_rfl, trivial⟩, ⟨by kernel_rfl, by kernel_rfl, by kernel_rfl, by kernel_rfl, trivial⟩, rfl, rfl, rfl⟩
      · rintro ⟨⟨k, m, top⟩, hk, hs⟩
        simp only at hk hs
        refine ⟨fun k1 => ?_, fun k1 => ?_⟩
        · have klt : k < i := by simp [ilt, vi] at k1; omega
          have e1 := step63 klt (by omega)
          have hml : m.length = i := by rw [hs.len, hlen]
          have hR := flat_R hs.wf
          rw [hml] at hR
          have o0 : elOff ((k : Nat) : Int) 2 + 1 = k * 2 + 1 := by simp [elOff]
          have v0 : celI (flat m) (elOff ((k : Nat) : Int) 2 + 1 + 0) = fnm m k := by rw [o0, Nat.add_zero, flat_c1 (by omega)]
          refine ⟨⟨Int.natCast_nonneg _, Int.ofNat_lt.2 klt⟩, ?_⟩
          refine ⟨(by rw [o0]; exact cCells_flat (by omega) : cCells (flat m) (elOff ((k : Nat) : Int) 2 + 1) z1), ?_⟩
          refine ⟨fun h5 => ?_, fun h5 => ?_⟩
          · have h5' : fnm m k = 0 := by
              have : ieq (celI (flat m) (elOff ((k : Nat) : Int) 2 + 1 + 0)) 0 = true := h5
              rw [v0] at this
              simpa [ieq] using this
            have hs' := hs.step1 (by rw [hlen]; exact klt) (by omega) h5'
            have et := add_top hs.lo (by have := hs.hi; omega)
            have hR' := flat_R hs'.wf
            rw [fillF_len, hml] at hR'
            have ex : setV (flat m) (elOff ((k : Nat) : Int) 2 + 1) [vu (iadd .u64 top 1)] = flat (fillF m k (top + 1)) := by
              rw [o0, et, fillF_flat (by omega)]
            have XR : FatesR (setV (flat m) (elOff ((k : Nat) : Int) 2 + 1) [vu (iadd .u64 top 1)]) i := by rw [ex]; exact hR'.1
            have cf : cFit (elOff ((k : Nat) : Int) 2 + 1) 1 (flat m) := by
              rw [o0]; unfold cFit; rw [flat_len, hml]; omega
            refine ⟨⟨Int.natCast_nonneg _, Int.ofNat_lt.2 klt⟩, ?_⟩
            refine ⟨cf, ?_⟩
            refine ⟨⟨rfl, XR⟩, ?_⟩
            refine ⟨fun h6 => ?_, fun h6 => ?_⟩
            · exfalso
              have h6' : ine (errE first (fatesR (setV (flat m) (elOff ((k : Nat) : Int) 2 + 1) [vu (iadd .u64 top 1)]) i) t) 0 = true := h6
              rw [ex, hR'.2, (hs'.same hok t).2] at h6'
              rw [h1'] at h6'
              cases h6'
            refine ⟨fun h7 => ?_, fun h7 => ?_⟩
            · exfalso
              have h7' : (!bEq (seenV ⟨0, true, snap⟩ first (fatesR (setV (flat m) (elOff ((k : Nat) : Int) 2 + 1) [vu (iadd .u64 top 1)]) i) t) (seenV ⟨0, true, snap⟩ first (fatesOf (fun k => w.heap[k]?) A i) t)) = true := h7
              rw [ex, hR'.2, (hs'.same hok t).1] at h7'
              simp [bEq] at h7'
            refine ⟨⟨(k + 1, fillF m k (top + 1), top + 1), by simp; omega, hs'⟩, ⟨fun x => x, rfl, rfl, ⟨by kernel_rfl, by kernel_rfl, by kernel_rfl, congrArg (fun q => some (sval (vu q))) et, by kernel_rfl, by kernel_rfl, by kernel_rfl, ?_, trivial⟩, ⟨by kernel_rfl, by kernel_rfl, by kernel_rfl, congrArg (fun q => some (Atom.row 44 2 i q)) ex, trivial⟩, rfl, rfl, rfl⟩, by simp; omega⟩
            exact congrArg (fun q => some (sval (vi q))) e1
          · have hs' := hs.step0
            have XR := hR.1
            refine ⟨⟨rfl, XR⟩, ?_⟩
            refine ⟨fun h6 => ?_, fun h6 => ?_⟩
            · exfalso
              have h6' : ine (errE first (fatesR (flat m) i) t) 0 = true := h6
              rw [hR.2, (hs'.same hok t).2] at h6'
              rw [h1'] at h6'
              cases h6'
            refine ⟨fun h7 => ?_, fun h7 => ?_⟩
            · exfalso
              have h7' : (!bEq (seenV ⟨0, true, snap⟩ first (fatesR (flat m) i) t) (seenV ⟨0, true, snap⟩ first (fatesOf (fun k => w.heap[k]?) A i) t)) = true := h7
              rw [hR.2, (hs'.same hok t).1] at h7'
              simp [bEq] at h7'
            refine ⟨⟨(k + 1, m, top), by simp; omega, hs'⟩, ⟨fun x => x, rfl, rfl, ⟨by kernel_rfl, by kernel_rfl, by kernel_rfl, by kernel_rfl, by kernel_rfl, by kernel_rfl, by kernel_rfl, ?_, trivial⟩, ⟨by kernel_rfl, by kernel_rfl, by kernel_rfl, by kernel_rfl, trivial⟩, rfl, rfl, rfl⟩, by simp; omega⟩
            exact congrArg (fun q => some (sval (vi q))) e1
        · exact ⟨rfl, trivial⟩
end Go.Proofs.Ytpjceimjhbmjnaa
