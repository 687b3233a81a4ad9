/- KeyFair: the law, walked. No condition. -/
import Derived.Test.YtemoagpahhdoeaaKh
namespace Go.Proofs.Ytemoagpahhdoeaa
open Go.Sy
open Go.RowKit (Below)
set_option linter.unusedSimpArgs false
set_option linter.unusedVariables false
set_option maxRecDepth 100000

def fairAt (n : Nat) (P Q : List Int) (pn qn : Nat) (seen : List Bool) : List (Nat × Atom) :=
  [(19, .row 3 1 pn (P.map vi)), (1019, .row 3 1 qn (Q.map vi)), (58, .row 4 1 n (seen.map Value.bool)), (61, .blk 24 [.sli 19 pn, .sli 1019 qn])]
def fairSt1 (A : Option Addr) (n cap : Nat) (P Q : List Int) (pn qn : Nat) : Option Bool → SS
  | none => ⟨[(0, sval (.slice A n cap)), (7, .e (.c (.sli 58 n))), (61, .e (.c (.sli 61 2))), (62, sval (vi 2)), (63, sval (vi 0))], fairAt n P Q pn qn (mkS n []), []⟩
  | some false => ⟨[(0, sval (.slice A n cap)), (7, .e (.c (.sli 58 n))), (61, .e (.c (.sli 61 2))), (62, sval (vi 2)), (63, sval (vi 1))], fairAt n P Q pn qn (mkS n P), []⟩
  | some true => ⟨[(0, sval (.slice A n cap)), (7, .e (.c (.sli 58 n))), (61, .e (.c (.sli 61 2))), (62, sval (vi 2)), (63, sval (vi 2))], fairAt n P Q pn qn (mkS n (P ++ Q)), []⟩
def fairSt2 (A : Option Addr) (n cap : Nat) (P Q : List Int) (pn qn : Nat) (r len : Nat) (k : Int) (B S : List Int) (i : Nat) : SS :=
  ⟨[(0, sval (.slice A n cap)), (7, .e (.c (.sli 58 n))), (9, .e (.c (.sli r len))), (61, .e (.c (.sli 61 2))), (62, sval (vi 2)), (63, sval (vi k)), (67, .e (.c (.sli r len))), (68, sval (vi len)), (69, sval (vi i))], fairAt n P Q pn qn (mkS n (B ++ S.take i)), []⟩

set_option maxHeartbeats 8000000 in
theorem fair_law (w : World) (A : Option Addr) (n cap : Nat) (hK : KeysF (fun k => w.heap[k]?) A n) : Calls Try.prog 3 #[.slice A n cap] w fun e w' => e = .returned (.bool true) ∧ Below w.heap.size w w' := by
  obtain ⟨l, hl⟩ : ∃ l, keysOf (fun k => w.heap[k]?) A n = l := ⟨_, rfl⟩
  have hlen : l.length = n := by rw [← hl]; exact keysOf_len _ A n
  subst hl
  refine pure_calls (vs := [sval (.slice A n cap)]) (v := sval (.bool true)) (E := ⟨Ty, sp24, fun k => w.heap[k]?, 106, []⟩) Try.func3 rfl mixed Ty_ok sp24_ok rfl (by kernel_rfl) rfl rfl rfl ?_
  refine ⟨fun h => (no_t h (by kernel_rfl)).elim, fun _ => ?_⟩
  refine ⟨fun g0 => ⟨rfl, trivial⟩, fun g0 => ?_⟩
  refine ⟨fun g1 => ?_, fun g1 => ?_⟩
  · refine ⟨hK, ?_⟩
    refine ⟨fun _ => ⟨by kernel_rfl, trivial⟩, fun h => (Bool.eq_false_iff.1 h (by kernel_rfl)).elim⟩
  have hn : n ≤ 64 := by simp [ilt] at g1; omega
  refine ⟨fun g2 => ?_, fun g2 => ?_⟩
  · refine ⟨hK, ?_⟩
    refine ⟨fun _ => ⟨by kernel_rfl, trivial⟩, fun h => (Bool.eq_false_iff.1 h (by kernel_rfl)).elim⟩
  refine ⟨hK, ?_⟩
  refine ⟨fun h => (no_t h (by kernel_rfl)).elim, fun _ => ?_⟩
  have h2 : 2 ≤ n := by
    have g2' : badL (keysOf (fun k => w.heap[k]?) A n) = false := g2
    simp [badL, ilt, hlen] at g2'
    omega
  have hf := part_fair (l := keysOf (fun k => w.heap[k]?) A n) (by omega) (by omega)
  rw [hlen] at hf
  obtain ⟨fa, fb, la, lb, sum⟩ := hf
  refine ⟨by unfold cNz; decide, ?_⟩
  have ea : (partM (keysOf (fun k => w.heap[k]?) A n)).pa.length = (sortM (partM (keysOf (fun k => w.heap[k]?) A n)).pa).length := (sortM_len _).symm
  have eb : (partM (keysOf (fun k => w.heap[k]?) A n)).pb.length = (sortM (partM (keysOf (fun k => w.heap[k]?) A n)).pb).length := (sortM_len _).symm
  refine ⟨fun h => ?_, fun _ => ?_⟩
  · have h' : ilt ((partM (keysOf (fun k => w.heap[k]?) A n)).pa.length : Int) (leastM n) = true := by unfold leastM; exact h
    simp [ilt] at h'
    omega
  refine ⟨fun h => ?_, fun _ => ?_⟩
  · have h' : ilt ((partM (keysOf (fun k => w.heap[k]?) A n)).pb.length : Int) (leastM n) = true := by unfold leastM; exact h
    simp [ilt] at h'
    omega
  refine ⟨fun h => ?_, fun _ => ?_⟩
  · have h' : ine (iadd .i64 ((partM (keysOf (fun k => w.heap[k]?) A n)).pa.length : Int) ((partM (keysOf (fun k => w.heap[k]?) A n)).pb.length : Int)) n = true := h
    rw [add64 (by omega) (by omega) (by omega) (by omega)] at h'
    simp [ine] at h'
    omega
  refine ⟨⟨rfl, by omega, by show (1 : Int) * (n : Int) ≤ _; omega, by omega⟩, ?_⟩
  refine ⟨Option Bool, fairSt1 A n cap (sortM (partM (keysOf (fun k => w.heap[k]?) A n)).pa) (sortM (partM (keysOf (fun k => w.heap[k]?) A n)).pb) (partM (keysOf (fun k => w.heap[k]?) A n)).pa.length (partM (keysOf (fun k => w.heap[k]?) A n)).pb.length, left3, none, ⟨fun x => x, rfl, rfl, ⟨by kernel_rfl, by kernel_rfl, by kernel_rfl, by kernel_rfl, by kernel_rfl, trivial⟩, ⟨by kernel_rfl, by kernel_rfl, ?_, by kernel_rfl, trivial⟩, by kernel_rfl, by kernel_rfl, by kernel_rfl⟩, ?_⟩
  · exact congrArg (fun q => some (Atom.row 4 1 n q)) (mkS_nil n).symm
  intro i
  match i with
  | none =>
    refine ⟨fun _ => ?_, fun h1 => by simp [ilt] at h1⟩
    refine ⟨⟨by decide, by decide⟩, ?_⟩
    have hlenS : (sortM (partM (keysOf (fun k => w.heap[k]?) A n)).pa).length = (partM (keysOf (fun k => w.heap[k]?) A n)).pa.length := sortM_len _
    refine ⟨{ i : Nat // i ≤ (partM (keysOf (fun k => w.heap[k]?) A n)).pa.length }, fun i => fairSt2 A n cap (sortM (partM (keysOf (fun k => w.heap[k]?) A n)).pa) (sortM (partM (keysOf (fun k => w.heap[k]?) A n)).pb) (partM (keysOf (fun k => w.heap[k]?) A n)).pa.length (partM (keysOf (fun k => w.heap[k]?) A n)).pb.length 19 (partM (keysOf (fun k => w.heap[k]?) A n)).pa.length 0 [] (sortM (partM (keysOf (fun k => w.heap[k]?) A n)).pa) i.1, fun i => (partM (keysOf (fun k => w.heap[k]?) A n)).pa.length - i.1, ⟨0, by omega⟩, ⟨fun x => x, rfl, rfl, ⟨by kernel_rfl, by kernel_rfl, by kernel_rfl, by kernel_rfl, by kernel_rfl, by kernel_rfl, by kernel_rfl, by kernel_rfl, by kernel_rfl, trivial⟩, ⟨by kernel_rfl, by kernel_rfl, ?_, by kernel_rfl, trivial⟩, by kernel_rfl, by kernel_rfl, by kernel_rfl⟩, ?_⟩
    · simp [lk_cons, Atom.ren, fairAt, fairSt1, fairSt2, SS.clr]
    rintro ⟨i, hi⟩
    refine ⟨fun q1 => ?_, fun q1 => ?_⟩
    · have hlt : i < (partM (keysOf (fun k => w.heap[k]?) A n)).pa.length := by simp [ilt] at q1; omega
      have e1 := step63 hlt (by omega)
      have o0 : elOff ((i : Nat) : Int) 1 = i := by simp [elOff]
      have x0 := fa.lo i (by omega)
      have x1 := fa.hi i (by omega)
      have x2 := fa.new i (by omega)
      obtain ⟨x, hx⟩ : ∃ x, (sortM (partM (keysOf (fun k => w.heap[k]?) A n)).pa).getD i 0 = x := ⟨_, rfl⟩
      rw [hx] at x0 x1 x2
      have v0 : celI ((sortM (partM (keysOf (fun k => w.heap[k]?) A n)).pa).map vi) (elOff ((i : Nat) : Int) 1 + 0) = x := by rw [o0, Nat.add_zero, celI_vi, hx]
      refine ⟨⟨Int.natCast_nonneg _, Int.ofNat_lt.2 hlt⟩, ?_⟩
      refine ⟨(by rw [o0]; exact cCells_vi (by omega) : cCells ((sortM (partM (keysOf (fun k => w.heap[k]?) A n)).pa).map vi) (elOff ((i : Nat) : Int) 1) [.int .i64 0]), ?_⟩
      refine ⟨fun h => ?_, fun _ => ?_⟩
      · have h' : ilt (celI ((sortM (partM (keysOf (fun k => w.heap[k]?) A n)).pa).map vi) (elOff ((i : Nat) : Int) 1 + 0)) 0 = true := h
        rw [v0] at h'
        simp [ilt] at h'
        omega
      refine ⟨fun h => ?_, fun _ => ?_⟩
      · have h' : ile n (celI ((sortM (partM (keysOf (fun k => w.heap[k]?) A n)).pa).map vi) (elOff ((i : Nat) : Int) 1 + 0)) = true := h
        rw [v0] at h'
        simp [ile] at h'
        omega
      have ox : elOff x 1 = x.toNat := by simp [elOff]
      have cr : cRow n (celI ((sortM (partM (keysOf (fun k => w.heap[k]?) A n)).pa).map vi) (elOff ((i : Nat) : Int) 1 + 0)) := by rw [v0]; exact ⟨x0, x1⟩
      have cb : cCells ((mkS n ([] ++ (sortM (partM (keysOf (fun k => w.heap[k]?) A n)).pa).take i)).map Value.bool) (elOff (celI ((sortM (partM (keysOf (fun k => w.heap[k]?) A n)).pa).map vi) (elOff ((i : Nat) : Int) 1 + 0)) 1) [.bool false] := by
        rw [v0, ox]; exact cCells_bo (by rw [mkS_len]; omega)
      refine ⟨cr, cb, ?_⟩
      refine ⟨fun h => ?_, fun _ => ?_⟩
      · have h' : celB ((mkS n ([] ++ (sortM (partM (keysOf (fun k => w.heap[k]?) A n)).pa).take i)).map Value.bool) (elOff (celI ((sortM (partM (keysOf (fun k => w.heap[k]?) A n)).pa).map vi) (elOff ((i : Nat) : Int) 1 + 0)) 1 + 0) = true := h
        rw [v0, ox, Nat.add_zero, celB_bo, mkS_get x0 x1] at h'
        exact (x2 (of_decide_eq_true h')).elim
      have fin : setV ((mkS n ([] ++ (sortM (partM (keysOf (fun k => w.heap[k]?) A n)).pa).take i)).map Value.bool) (elOff (celI ((sortM (partM (keysOf (fun k => w.heap[k]?) A n)).pa).map vi) (elOff ((i : Nat) : Int) 1 + 0)) 1) [.bool true] = (mkS n ([] ++ (sortM (partM (keysOf (fun k => w.heap[k]?) A n)).pa).take (i + 1))).map Value.bool := by
        rw [v0, ox, setV_bo _ (by rw [mkS_len]; omega), mkS_set x0 x1, getD_take (by omega), hx, List.append_assoc]
      have cf : cFit (elOff (celI ((sortM (partM (keysOf (fun k => w.heap[k]?) A n)).pa).map vi) (elOff ((i : Nat) : Int) 1 + 0)) 1) 1 ((mkS n ([] ++ (sortM (partM (keysOf (fun k => w.heap[k]?) A n)).pa).take i)).map Value.bool) := by
        rw [v0, ox]; unfold cFit; rw [List.length_map, mkS_len]; omega
      refine ⟨fun h => ?_, fun h => ?_⟩
      · have hpos : 0 < i := by
          have h' : ilt 0 (i : Int) = true := h
          simp [ilt] at h'
          omega
        obtain ⟨i', rfl⟩ : ∃ i', i = i' + 1 := ⟨i - 1, by omega⟩
        have e2 := sub63 (k := i') (by omega)
        have o1 : elOff (isub .i64 ((i' + 1 : Nat) : Int) 1) 1 = i' := by rw [e2]; simp [elOff]
        refine ⟨(by rw [e2]; exact ⟨Int.natCast_nonneg _, Int.ofNat_lt.2 (by omega)⟩ : cRow (partM (keysOf (fun k => w.heap[k]?) A n)).pa.length (isub .i64 ((i' + 1 : Nat) : Int) 1)), ?_⟩
        refine ⟨(by rw [o1]; exact cCells_vi (by omega) : cCells ((sortM (partM (keysOf (fun k => w.heap[k]?) A n)).pa).map vi) (elOff (isub .i64 ((i' + 1 : Nat) : Int) 1) 1) [.int .i64 0]), ?_⟩
        have v1 : celI ((sortM (partM (keysOf (fun k => w.heap[k]?) A n)).pa).map vi) (elOff (isub .i64 ((i' + 1 : Nat) : Int) 1) 1 + 0) = (sortM (partM (keysOf (fun k => w.heap[k]?) A n)).pa).getD i' 0 := by rw [o1, Nat.add_zero, celI_vi]
        refine ⟨fun h => ?_, fun _ => ?_⟩
        · have h' : ile (celI ((sortM (partM (keysOf (fun k => w.heap[k]?) A n)).pa).map vi) (elOff ((i' + 1 : Nat) : Int) 1 + 0)) (celI ((sortM (partM (keysOf (fun k => w.heap[k]?) A n)).pa).map vi) (elOff (isub .i64 ((i' + 1 : Nat) : Int) 1) 1 + 0)) = true := h
          rw [v0, v1] at h'
          simp only [ile, decide_eq_true_eq] at h'
          have := fa.up i' (by omega)
          rw [hx] at this
          omega
        refine ⟨cr, cf, ?_⟩
        refine ⟨⟨i' + 1 + 1, by omega⟩, ⟨fun x => x, by kernel_rfl, by kernel_rfl, ⟨by kernel_rfl, by kernel_rfl, by kernel_rfl, by kernel_rfl, by kernel_rfl, by kernel_rfl, by kernel_rfl, by kernel_rfl, ?_, trivial⟩, ⟨by kernel_rfl, by kernel_rfl, ?_, by kernel_rfl, trivial⟩, by kernel_rfl, by kernel_rfl, by kernel_rfl⟩, by simp; omega⟩
        · simp [lk_cons, SV.ren, SE.ren, SC.ren, sval]
          exact e1
        · exact congrArg (fun q => some (Atom.row 4 1 n q)) fin
      · refine ⟨cr, cf, ?_⟩
        refine ⟨⟨i + 1, by omega⟩, ⟨fun x => x, by kernel_rfl, by kernel_rfl, ⟨by kernel_rfl, by kernel_rfl, by kernel_rfl, by kernel_rfl, by kernel_rfl, by kernel_rfl, by kernel_rfl, by kernel_rfl, ?_, trivial⟩, ⟨by kernel_rfl, by kernel_rfl, ?_, by kernel_rfl, trivial⟩, by kernel_rfl, by kernel_rfl, by kernel_rfl⟩, by simp; omega⟩
        · simp [lk_cons, SV.ren, SE.ren, SC.ren, sval]
          exact e1
        · exact congrArg (fun q => some (Atom.row 4 1 n q)) fin
    · have hin : i = (partM (keysOf (fun k => w.heap[k]?) A n)).pa.length := by simp [ilt] at q1; omega
      subst hin
      refine ⟨some false, ⟨fun x => x, by kernel_rfl, by kernel_rfl, ⟨by kernel_rfl, by kernel_rfl, by kernel_rfl, by kernel_rfl, by kernel_rfl, trivial⟩, ⟨by kernel_rfl, by kernel_rfl, ?_, by kernel_rfl, trivial⟩, by kernel_rfl, by kernel_rfl, by kernel_rfl⟩, by decide⟩
      simp [lk_cons, Atom.ren, fairAt, fairSt1, fairSt2, SS.clr, ← hlenS]
  | some false =>
    refine ⟨fun _ => ?_, fun h1 => by simp [ilt] at h1⟩
    refine ⟨⟨by decide, by decide⟩, ?_⟩
    have hlenS : (sortM (partM (keysOf (fun k => w.heap[k]?) A n)).pb).length = (partM (keysOf (fun k => w.heap[k]?) A n)).pb.length := sortM_len _
    refine ⟨{ i : Nat // i ≤ (partM (keysOf (fun k => w.heap[k]?) A n)).pb.length }, fun i => fairSt2 A n cap (sortM (partM (keysOf (fun k => w.heap[k]?) A n)).pa) (sortM (partM (keysOf (fun k => w.heap[k]?) A n)).pb) (partM (keysOf (fun k => w.heap[k]?) A n)).pa.length (partM (keysOf (fun k => w.heap[k]?) A n)).pb.length 1019 (partM (keysOf (fun k => w.heap[k]?) A n)).pb.length 1 (sortM (partM (keysOf (fun k => w.heap[k]?) A n)).pa) (sortM (partM (keysOf (fun k => w.heap[k]?) A n)).pb) i.1, fun i => (partM (keysOf (fun k => w.heap[k]?) A n)).pb.length - i.1, ⟨0, by omega⟩, ⟨fun x => x, rfl, rfl, ⟨by kernel_rfl, by kernel_rfl, by kernel_rfl, by kernel_rfl, by kernel_rfl, by kernel_rfl, by kernel_rfl, by kernel_rfl, by kernel_rfl, trivial⟩, ⟨by kernel_rfl, by kernel_rfl, ?_, by kernel_rfl, trivial⟩, by kernel_rfl, by kernel_rfl, by kernel_rfl⟩, ?_⟩
    · simp [lk_cons, Atom.ren, fairAt, fairSt1, fairSt2, SS.clr]
    rintro ⟨i, hi⟩
    refine ⟨fun q1 => ?_, fun q1 => ?_⟩
    · have hlt : i < (partM (keysOf (fun k => w.heap[k]?) A n)).pb.length := by simp [ilt] at q1; omega
      have e1 := step63 hlt (by omega)
      have o0 : elOff ((i : Nat) : Int) 1 = i := by simp [elOff]
      have x0 := fb.lo i (by omega)
      have x1 := fb.hi i (by omega)
      have x2 := fb.new i (by omega)
      obtain ⟨x, hx⟩ : ∃ x, (sortM (partM (keysOf (fun k => w.heap[k]?) A n)).pb).getD i 0 = x := ⟨_, rfl⟩
      rw [hx] at x0 x1 x2
      have v0 : celI ((sortM (partM (keysOf (fun k => w.heap[k]?) A n)).pb).map vi) (elOff ((i : Nat) : Int) 1 + 0) = x := by rw [o0, Nat.add_zero, celI_vi, hx]
      refine ⟨⟨Int.natCast_nonneg _, Int.ofNat_lt.2 hlt⟩, ?_⟩
      refine ⟨(by rw [o0]; exact cCells_vi (by omega) : cCells ((sortM (partM (keysOf (fun k => w.heap[k]?) A n)).pb).map vi) (elOff ((i : Nat) : Int) 1) [.int .i64 0]), ?_⟩
      refine ⟨fun h => ?_, fun _ => ?_⟩
      · have h' : ilt (celI ((sortM (partM (keysOf (fun k => w.heap[k]?) A n)).pb).map vi) (elOff ((i : Nat) : Int) 1 + 0)) 0 = true := h
        rw [v0] at h'
        simp [ilt] at h'
        omega
      refine ⟨fun h => ?_, fun _ => ?_⟩
      · have h' : ile n (celI ((sortM (partM (keysOf (fun k => w.heap[k]?) A n)).pb).map vi) (elOff ((i : Nat) : Int) 1 + 0)) = true := h
        rw [v0] at h'
        simp [ile] at h'
        omega
      have ox : elOff x 1 = x.toNat := by simp [elOff]
      have cr : cRow n (celI ((sortM (partM (keysOf (fun k => w.heap[k]?) A n)).pb).map vi) (elOff ((i : Nat) : Int) 1 + 0)) := by rw [v0]; exact ⟨x0, x1⟩
      have cb : cCells ((mkS n ((sortM (partM (keysOf (fun k => w.heap[k]?) A n)).pa) ++ (sortM (partM (keysOf (fun k => w.heap[k]?) A n)).pb).take i)).map Value.bool) (elOff (celI ((sortM (partM (keysOf (fun k => w.heap[k]?) A n)).pb).map vi) (elOff ((i : Nat) : Int) 1 + 0)) 1) [.bool false] := by
        rw [v0, ox]; exact cCells_bo (by rw [mkS_len]; omega)
      refine ⟨cr, cb, ?_⟩
      refine ⟨fun h => ?_, fun _ => ?_⟩
      · have h' : celB ((mkS n ((sortM (partM (keysOf (fun k => w.heap[k]?) A n)).pa) ++ (sortM (partM (keysOf (fun k => w.heap[k]?) A n)).pb).take i)).map Value.bool) (elOff (celI ((sortM (partM (keysOf (fun k => w.heap[k]?) A n)).pb).map vi) (elOff ((i : Nat) : Int) 1 + 0)) 1 + 0) = true := h
        rw [v0, ox, Nat.add_zero, celB_bo, mkS_get x0 x1] at h'
        exact (x2 (of_decide_eq_true h')).elim
      have fin : setV ((mkS n ((sortM (partM (keysOf (fun k => w.heap[k]?) A n)).pa) ++ (sortM (partM (keysOf (fun k => w.heap[k]?) A n)).pb).take i)).map Value.bool) (elOff (celI ((sortM (partM (keysOf (fun k => w.heap[k]?) A n)).pb).map vi) (elOff ((i : Nat) : Int) 1 + 0)) 1) [.bool true] = (mkS n ((sortM (partM (keysOf (fun k => w.heap[k]?) A n)).pa) ++ (sortM (partM (keysOf (fun k => w.heap[k]?) A n)).pb).take (i + 1))).map Value.bool := by
        rw [v0, ox, setV_bo _ (by rw [mkS_len]; omega), mkS_set x0 x1, getD_take (by omega), hx, List.append_assoc]
      have cf : cFit (elOff (celI ((sortM (partM (keysOf (fun k => w.heap[k]?) A n)).pb).map vi) (elOff ((i : Nat) : Int) 1 + 0)) 1) 1 ((mkS n ((sortM (partM (keysOf (fun k => w.heap[k]?) A n)).pa) ++ (sortM (partM (keysOf (fun k => w.heap[k]?) A n)).pb).take i)).map Value.bool) := by
        rw [v0, ox]; unfold cFit; rw [List.length_map, mkS_len]; omega
      refine ⟨fun h => ?_, fun h => ?_⟩
      · have hpos : 0 < i := by
          have h' : ilt 0 (i : Int) = true := h
          simp [ilt] at h'
          omega
        obtain ⟨i', rfl⟩ : ∃ i', i = i' + 1 := ⟨i - 1, by omega⟩
        have e2 := sub63 (k := i') (by omega)
        have o1 : elOff (isub .i64 ((i' + 1 : Nat) : Int) 1) 1 = i' := by rw [e2]; simp [elOff]
        refine ⟨(by rw [e2]; exact ⟨Int.natCast_nonneg _, Int.ofNat_lt.2 (by omega)⟩ : cRow (partM (keysOf (fun k => w.heap[k]?) A n)).pb.length (isub .i64 ((i' + 1 : Nat) : Int) 1)), ?_⟩
        refine ⟨(by rw [o1]; exact cCells_vi (by omega) : cCells ((sortM (partM (keysOf (fun k => w.heap[k]?) A n)).pb).map vi) (elOff (isub .i64 ((i' + 1 : Nat) : Int) 1) 1) [.int .i64 0]), ?_⟩
        have v1 : celI ((sortM (partM (keysOf (fun k => w.heap[k]?) A n)).pb).map vi) (elOff (isub .i64 ((i' + 1 : Nat) : Int) 1) 1 + 0) = (sortM (partM (keysOf (fun k => w.heap[k]?) A n)).pb).getD i' 0 := by rw [o1, Nat.add_zero, celI_vi]
        refine ⟨fun h => ?_, fun _ => ?_⟩
        · have h' : ile (celI ((sortM (partM (keysOf (fun k => w.heap[k]?) A n)).pb).map vi) (elOff ((i' + 1 : Nat) : Int) 1 + 0)) (celI ((sortM (partM (keysOf (fun k => w.heap[k]?) A n)).pb).map vi) (elOff (isub .i64 ((i' + 1 : Nat) : Int) 1) 1 + 0)) = true := h
          rw [v0, v1] at h'
          simp only [ile, decide_eq_true_eq] at h'
          have := fb.up i' (by omega)
          rw [hx] at this
          omega
        refine ⟨cr, cf, ?_⟩
        refine ⟨⟨i' + 1 + 1, by omega⟩, ⟨fun x => x, by kernel_rfl, by kernel_rfl, ⟨by kernel_rfl, by kernel_rfl, by kernel_rfl, by kernel_rfl, by kernel_rfl, by kernel_rfl, by kernel_rfl, by kernel_rfl, ?_, trivial⟩, ⟨by kernel_rfl, by kernel_rfl, ?_, by kernel_rfl, trivial⟩, by kernel_rfl, by kernel_rfl, by kernel_rfl⟩, by simp; omega⟩
        · simp [lk_cons, SV.ren, SE.ren, SC.ren, sval]
          exact e1
        · exact congrArg (fun q => some (Atom.row 4 1 n q)) fin
      · refine ⟨cr, cf, ?_⟩
        refine ⟨⟨i + 1, by omega⟩, ⟨fun x => x, by kernel_rfl, by kernel_rfl, ⟨by kernel_rfl, by kernel_rfl, by kernel_rfl, by kernel_rfl, by kernel_rfl, by kernel_rfl, by kernel_rfl, by kernel_rfl, ?_, trivial⟩, ⟨by kernel_rfl, by kernel_rfl, ?_, by kernel_rfl, trivial⟩, by kernel_rfl, by kernel_rfl, by kernel_rfl⟩, by simp; omega⟩
        · simp [lk_cons, SV.ren, SE.ren, SC.ren, sval]
          exact e1
        · exact congrArg (fun q => some (Atom.row 4 1 n q)) fin
    · have hin : i = (partM (keysOf (fun k => w.heap[k]?) A n)).pb.length := by simp [ilt] at q1; omega
      subst hin
      refine ⟨some true, ⟨fun x => x, by kernel_rfl, by kernel_rfl, ⟨by kernel_rfl, by kernel_rfl, by kernel_rfl, by kernel_rfl, by kernel_rfl, trivial⟩, ⟨by kernel_rfl, by kernel_rfl, ?_, by kernel_rfl, trivial⟩, by kernel_rfl, by kernel_rfl, by kernel_rfl⟩, by decide⟩
      simp [lk_cons, Atom.ren, fairAt, fairSt1, fairSt2, SS.clr, ← hlenS]
  | some true =>
    refine ⟨fun h1 => by simp [ilt] at h1, fun _ => ?_⟩
    exact ⟨rfl, trivial⟩
end Go.Proofs.Ytemoagpahhdoeaa
