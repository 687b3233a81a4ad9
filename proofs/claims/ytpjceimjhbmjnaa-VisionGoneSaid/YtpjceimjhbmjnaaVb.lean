/- The arguments of the vision laws, opened. No condition. -/
import Derived.Test.YtpjceimjhbmjnaaVa
import Derived.ProofKit
import Derived.Lib.SmallJoins
import Derived.Carry
import Derived.Deep.Slices
namespace Go.Proofs.Ytpjceimjhbmjnaa
open Go.ChangeShapes Go.WideShapes Go.ChangeAt Go.RowKit Go.Joins Go.Deep
open Go.Sy (Hp cRead)
set_option linter.unusedSimpArgs false
set_option linter.unusedVariables false
set_option maxRecDepth 100000

theorem cells22 : Try.prog.cellsOf 22 = 1 := by kernel_rfl
theorem cells44 : Try.prog.cellsOf 44 = 2 := by kernel_rfl
theorem cells30 : Try.prog.cellsOf 30 = 4 := by kernel_rfl
theorem cells32 : Try.prog.cellsOf 32 = 8 := by kernel_rfl
theorem cells49 : Try.prog.cellsOf 49 = 2 := by kernel_rfl
theorem cells25 : Try.prog.cellsOf 25 = 2 := by kernel_rfl
theorem cells27 : Try.prog.cellsOf 27 = 3 := by kernel_rfl
theorem cells28 : Try.prog.cellsOf 28 = 1 := by kernel_rfl
theorem cells2 : Try.prog.cellsOf 2 = 1 := by kernel_rfl

section
variable {H : Type} {enc : TypeId × Value → H} {W : World} {base : Nat} {spare : Nat → Bool} {held : Bool} {r : Reach} {b0 : Nat}

theorem cells2_ {a : Addr} {cs : List Value} (h : W.cells? base a 2 = some cs) : ∃ c0 c1, cs = [c0, c1] ∧ W.cell? (a.add 0) = some c0 ∧ W.cell? (a.add 1) = some c1 := by
  unfold World.cells? at h
  split at h
  · have e : List.range 2 = [0, 1] := rfl
    rw [e] at h
    simp only [List.mapM_cons, List.mapM_nil, Option.bind_eq_bind, Option.bind_eq_some_iff, Option.pure_def, Option.some.injEq] at h
    obtain ⟨c0, h0, l0, ⟨c1, h1, l1, h2, h3⟩, h4⟩ := h
    subst h2 h3 h4
    exact ⟨c0, c1, rfl, h0, h1⟩
  · cases h

theorem wf_u64 {n : Int} (h : (Lit.int .u64 n).wf = true) : 0 ≤ n ∧ n < 18446744073709551616 := by
  simp [Lit.wf, IntKind.min, IntKind.max, IntKind.bits, IntKind.signed] at h
  omega
theorem wf_u32 {n : Int} (h : (Lit.int .u32 n).wf = true) : 0 ≤ n := by
  simp [Lit.wf, IntKind.min, IntKind.max, IntKind.bits, IntKind.signed] at h
  omega

theorem open_list {fuel : Nat} {cs : List Value} {x : DataW H × List MemPlace} (h : DataW.trod enc Try.prog W base spare held fuel 23 cs = some x) : ∃ A n cap, cs = [.slice A n cap] ∧ FatesF (fun k => W.heap[k]?) A n := by
  rcases open_slice Try.underlying23 h with ⟨hc, _⟩ | ⟨a, len, cap', m, k, D, Pl, hc, _, hl, _, hm, _, hall⟩
  · exact ⟨none, 0, 0, hc, fun i hi => by omega⟩
  · refine ⟨some a, len, cap', hc, fun i hi => ?_⟩
    obtain ⟨cs, h1, h2⟩ := hall i (by rw [hm]; split <;> omega)
    rw [cells44] at h1
    obtain ⟨c0, c1, rfl, g0, g1⟩ := cells2_ h1
    obtain ⟨y0, y1, n', _, _, k0, k1⟩ := trod_struct2 Try.underlying44 h2
    simp only [cells22] at k0 k1
    obtain ⟨x0, e0, _, w0⟩ := DataW.trod_int Try.underlying22 k0
    obtain ⟨x1, e1, _, w1⟩ := DataW.trod_int Try.underlying22 k1
    simp at e0 e1
    subst e0 e1
    have e : Go.Sy.elAt (some a) (i : Int) 2 = a.add (i * 2) := by simp [Go.Sy.elAt]
    have cell : ∀ (q : Addr) (u : Value), W.cell? q = some u → Hp.cell (fun k => W.heap[k]?) q = some u := fun q u hq => hq
    have i0 : Hp.int (fun k => W.heap[k]?) ((a.add (i * 2)).add 0) = x0 := by rw [Hp.int, cell _ _ g0]
    have i1 : Hp.int (fun k => W.heap[k]?) ((a.add (i * 2)).add 1) = x1 := by rw [Hp.int, cell _ _ g1]
    refine ⟨rfl, ?_, ?_⟩
    · rw [e]
      refine cRead_of (fun j hj => ?_)
      have hj' : j = 0 ∨ j = 1 := by omega
      rcases hj' with rfl | rfl
      · rw [cell _ _ g0, i0]
      · rw [cell _ _ g1, i1]
    · unfold fateAt wfF
      rw [e, i0, i1]
      have := wf_u64 w0
      have := wf_u64 w1
      omega

theorem open_fates {v : Value} {d : DataW H} {p : List MemPlace} (hv : Value.okWide Try.prog W r b0 25 v) (h : DataW.Trod enc Try.prog W base spare held 25 v d p) :
    ∃ first A n cap, v = fatesVal first A n cap ∧ 0 ≤ first ∧ FatesF (fun k => W.heap[k]?) A n := by
  obtain ⟨c0, c1, y0, y1, m, rfl, _, _, h0, h1⟩ := open_agg2 Try.underlying25 (by kernel_rfl) cells25 hv h
  obtain ⟨a, e0, _, wa⟩ := DataW.trod_int Try.underlying22 h0
  obtain ⟨A, n, cap, e1, hK⟩ := open_list h1
  simp at e0 e1
  subst e0 e1
  exact ⟨a, A, n, cap, rfl, (wf_u64 wa).1, hK⟩

theorem open_eye {v : Value} {d : DataW H} {p : List MemPlace} (hv : Value.okWide Try.prog W r b0 27 v) (h : DataW.Trod enc Try.prog W base spare held 27 v d p) : ∃ e : Ey, v = eyeVal e := by
  obtain ⟨c0, c1, c2, y0, y1, y2, m, rfl, _, _, h0, h1, h2⟩ := open_agg3 Try.underlying27 (by kernel_rfl) cells27 hv h
  obtain ⟨a, e0, _, wa⟩ := DataW.trod_int Try.underlying22 h0
  obtain ⟨b, e1, _⟩ := DataW.trod_bool Try.underlying4 h1
  obtain ⟨c, e2, _, wc⟩ := DataW.trod_int Try.underlying22 h2
  simp at e0 e1 e2
  subst e0 e1 e2
  exact ⟨⟨a, b, c⟩, rfl⟩

theorem open_u64 {v : Value} {d : DataW H} {p : List MemPlace} (hv : Value.okWide Try.prog W r b0 22 v) (h : DataW.Trod enc Try.prog W base spare held 22 v d p) : ∃ n : Int, v = vu n ∧ 0 ≤ n ∧ n < 18446744073709551616 := by
  obtain ⟨n, rfl⟩ := okWide_int Try.underlying22 hv
  obtain ⟨fuel, hf⟩ := h
  obtain ⟨m, e, _, wm⟩ := DataW.trod_int Try.underlying22 hf
  simp [Value.cells] at e
  subst e
  exact ⟨n, rfl, wf_u64 wm⟩

theorem array8 {α : Type} {cs : Array α} (h : cs.size = 8) : ∃ c0 c1 c2 c3 c4 c5 c6 c7, cs = #[c0, c1, c2, c3, c4, c5, c6, c7] := by
  obtain ⟨l⟩ := cs
  match l, h with
  | [c0, c1, c2, c3, c4, c5, c6, c7], _ => exact ⟨c0, c1, c2, c3, c4, c5, c6, c7, rfl⟩
theorem open_tup {v : Value} {d : DataW H} {p : List MemPlace} (hv : Value.okWide Try.prog W r b0 32 v) (h : DataW.Trod enc Try.prog W base spare held 32 v d p) : ∃ t : Tup, v = tupVal t ∧ TupW t := by
  obtain ⟨cs, rfl, hsz⟩ := okWide_struct Try.underlying32 hv
  obtain ⟨c0, c1, c2, c3, c4, c5, c6, c7, rfl⟩ := array8 (hsz.trans cells32)
  obtain ⟨fuel, hf⟩ := h
  obtain ⟨xs, n, _, _, _, hlen, hall⟩ := DataW.trod_struct Try.underlying32 hf
  match xs, hlen with
  | [y0, y1, y2, y3, y4], _ =>
    have h0 : DataW.trod enc Try.prog W base spare held n 28 (List.take (Try.prog.cellsOf 28) (List.drop 0 [c0, c1, c2, c3, c4, c5, c6, c7])) = some y0 := hall 0 _ rfl
    have h1 : DataW.trod enc Try.prog W base spare held n 22 (List.take (Try.prog.cellsOf 22) (List.drop 1 [c0, c1, c2, c3, c4, c5, c6, c7])) = some y1 := hall 1 _ rfl
    have h2 : DataW.trod enc Try.prog W base spare held n 22 (List.take (Try.prog.cellsOf 22) (List.drop 2 [c0, c1, c2, c3, c4, c5, c6, c7])) = some y2 := hall 2 _ rfl
    have h3 : DataW.trod enc Try.prog W base spare held n 30 (List.take (Try.prog.cellsOf 30) (List.drop 3 [c0, c1, c2, c3, c4, c5, c6, c7])) = some y3 := hall 3 _ rfl
    have h4 : DataW.trod enc Try.prog W base spare held n 2 (List.take (Try.prog.cellsOf 2) (List.drop 7 [c0, c1, c2, c3, c4, c5, c6, c7])) = some y4 := hall 4 _ rfl
    simp only [cells28, cells22, cells30, cells2] at h0 h1 h2 h3 h4
    obtain ⟨a0, e0, _, w0⟩ := DataW.trod_int Try.underlying28 h0
    obtain ⟨a1, e1, _, w1⟩ := DataW.trod_int Try.underlying22 h1
    obtain ⟨a2, e2, _, w2⟩ := DataW.trod_int Try.underlying22 h2
    obtain ⟨a7, e7, _, w7⟩ := DataW.trod_int Try.underlying2 h4
    obtain ⟨z0, z1, z2, z3, m, _, _, k0, k1, k2, k3⟩ := trod_struct4 Try.underlying30 h3
    simp only [cells2] at k0 k1 k2 k3
    obtain ⟨a3, e3, _, _⟩ := DataW.trod_int Try.underlying2 k0
    obtain ⟨a4, e4, _, _⟩ := DataW.trod_int Try.underlying2 k1
    obtain ⟨a5, e5, _, _⟩ := DataW.trod_int Try.underlying2 k2
    obtain ⟨a6, e6, _, _⟩ := DataW.trod_int Try.underlying2 k3
    simp at e0 e1 e2 e3 e4 e5 e6 e7
    subst e0 e1 e2 e3 e4 e5 e6 e7
    exact ⟨⟨a0, a1, a2, a3, a4, a5, a6, a7⟩, rfl, wf_u32 w0, (wf_u64 w1).1, (wf_u64 w2).1⟩
end
end Go.Proofs.Ytpjceimjhbmjnaa
