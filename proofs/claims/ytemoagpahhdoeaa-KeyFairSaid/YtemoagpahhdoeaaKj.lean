/- KeyFair answers true whatever the list is, and leaves it as it was. No condition. -/
import Derived.Test.YtemoagpahhdoeaaKi
import Derived.ProofKit
import Derived.Lib.SmallJoins
import Derived.Carry
import Derived.Deep.Slices
namespace Go.Proofs.Ytemoagpahhdoeaa
open Go.ChangeShapes Go.WideShapes Go.ChangeAt Go.RowKit Go.Joins Go.Deep
open Go.Sy (Hp cRead)
set_option maxRecDepth 100000

theorem own3 : ownKnob Try.prog.godebug = none := by kernel_rfl
theorem cells32' : Try.prog.cellsOf 32 = 4 := by kernel_rfl

theorem cells4 {W : World} {base : Nat} {a : Addr} {cs : List Value} (h : W.cells? base a 4 = some cs) : ∃ c0 c1 c2 c3, cs = [c0, c1, c2, c3] ∧ W.cell? (a.add 0) = some c0 ∧ W.cell? (a.add 1) = some c1 ∧ W.cell? (a.add 2) = some c2 ∧ W.cell? (a.add 3) = some c3 := by
  unfold World.cells? at h
  split at h
  · have e : List.range 4 = [0, 1, 2, 3] := rfl
    rw [e] at h
    simp only [List.mapM_cons, List.mapM_nil, Option.bind_eq_bind, Option.bind_eq_some_iff, Option.pure_def, Option.some.injEq] at h
    obtain ⟨c0, h0, l0, ⟨c1, h1, l1, ⟨c2, h2, l2, ⟨c3, h3, l3, h4, h5⟩, h6⟩, h7⟩, h8⟩ := h
    subst h4 h5 h6 h7 h8
    exact ⟨c0, c1, c2, c3, rfl, h0, h1, h2, h3⟩
  · cases h

theorem key_cells {H : Type} {enc : TypeId × Value → H} {W : World} {base : Nat} {spare : Nat → Bool} {held : Bool} {fuel : Nat} {cs : List Value} {x : DataW H × List MemPlace} {c0 c1 c2 c3 : Value} (hc : cs = [c0, c1, c2, c3]) (h : DataW.trod enc Try.prog W base spare held fuel 32 cs = some x) :
    ∃ a b c d : Int, c0 = .int .i64 a ∧ c1 = .int .i64 b ∧ c2 = .int .i64 c ∧ c3 = .int .i64 d := by
  subst hc
  obtain ⟨y0, y1, y2, y3, m, _, _, h0, h1, h2, h3⟩ := trod_struct4 Try.underlying32 h
  have e2 : Try.prog.cellsOf 2 = 1 := by kernel_rfl
  simp only [e2] at h0 h1 h2 h3
  obtain ⟨a, e0, _, _⟩ := DataW.trod_int Try.underlying2 h0
  obtain ⟨b, e1, _, _⟩ := DataW.trod_int Try.underlying2 h1
  obtain ⟨c, e2, _, _⟩ := DataW.trod_int Try.underlying2 h2
  obtain ⟨d, e3, _, _⟩ := DataW.trod_int Try.underlying2 h3
  simp at e0 e1 e2 e3
  exact ⟨a, b, c, d, e0, e1, e2, e3⟩

theorem open_keys {H : Type} {enc : TypeId × Value → H} {W : World} {base : Nat} {spare : Nat → Bool} {held : Bool} {r : Reach} {b0 : Nat} {v : Value} {d : DataW H} {p : List MemPlace} (hv : Value.okWide Try.prog W r b0 22 v) (h : DataW.Trod enc Try.prog W base spare held 22 v d p) :
    ∃ A n cap, v = .slice A n cap ∧ KeysF (fun k => W.heap[k]?) A n := by
  obtain ⟨A, n, cap, rfl⟩ := okWide_slice Try.underlying22 hv
  refine ⟨A, n, cap, rfl, ?_⟩
  obtain ⟨fuel, hf⟩ := h
  rcases open_slice Try.underlying22 hf with ⟨hc, _⟩ | ⟨a, len, cap', m, k, D, Pl, hc, _, hl, _, hm, _, hall⟩
  · simp [Value.cells] at hc
    obtain ⟨rfl, rfl, rfl⟩ := hc
    intro i hi
    omega
  · simp [Value.cells] at hc
    obtain ⟨rfl, rfl, rfl⟩ := hc
    intro i hi
    refine ⟨rfl, ?_⟩
    obtain ⟨cs, h1, h2⟩ := hall i (by rw [hm]; split <;> omega)
    rw [cells32'] at h1
    obtain ⟨c0, c1, c2, c3, rfl, g0, g1, g2, g3⟩ := cells4 h1
    obtain ⟨x0, x1, x2, x3, rfl, rfl, rfl, rfl⟩ := key_cells rfl h2
    have e : Go.Sy.elAt (some a) (i : Int) 4 = a.add (i * 4) := by simp [Go.Sy.elAt]
    have cell : ∀ (q : Addr) (u : Value), W.cell? q = some u → Hp.cell (fun k => W.heap[k]?) q = some u := fun q u hq => hq
    rw [e]
    intro j c hj
    have hlt : j < 4 := by
      have := (List.getElem?_eq_some_iff.1 hj).1
      simpa [Go.Sy.rdT] using this
    have hj' : j = 0 ∨ j = 1 ∨ j = 2 ∨ j = 3 := by omega
    rcases hj' with rfl | rfl | rfl | rfl
    · simp [Go.Sy.rdT] at hj; subst hj; exact ⟨_, rfl, by rw [Hp.int, cell _ _ g0]⟩
    · simp [Go.Sy.rdT] at hj; subst hj; exact ⟨_, rfl, by rw [Hp.int, cell _ _ g1]⟩
    · simp [Go.Sy.rdT] at hj; subst hj; exact ⟨_, rfl, by rw [Hp.int, cell _ _ g2]⟩
    · simp [Go.Sy.rdT] at hj; subst hj; exact ⟨_, rfl, by rw [Hp.int, cell _ _ g3]⟩

theorem keyFair_lifted (os : Os) (started : os.Started) (H : Type) (enc : TypeId × Value → H) :
    ReturnsInHanded {} Try.checked os 3 .any (Rows.keyFairSpec.pre6 enc Try.prog Try.f3 Rows.keyFairRow.domain false) (Rows.keyFairSpec.post enc Try.prog Try.f3 false true false false) := by
  refine returnsInHanded_of_change (C := Try.checked) own3 started (by kernel_rfl) Try.func3
    (ChangeSpec.witness6 (enc := enc) (C := Try.checked) false ⟨#[], #[.slice none 0 0], []⟩ 8 (by kernel_rfl) (by kernel_rfl) (by kernel_rfl) (by kernel_rfl)) ?_
  intro W base args ds gs before hval0 hW hcnd _
  have hval : ∀ (j : Nat) t v, Try.f3.params[j]? = some t → args[j]? = some v → Value.okWide Try.prog W .any base t v := hval0
  have hW' := hW
  obtain ⟨p, q, hA0, hV, rfl, hfz, hnd⟩ := hW
  have hA : DataW.TrodAll enc Try.prog W 0 (fun _ => true) true Try.f3.params.toList args.toList ds p := hA0
  have hlt := hA.lt
  rw [Try.params3] at hA hval
  obtain ⟨v0, d0, rfl, rfl, h0⟩ := trodAll_one hA
  obtain ⟨rfl, rfl⟩ := trodVars_none hV
  obtain ⟨A, n, cap, rfl, hK⟩ := open_keys (hval 0 22 v0 rfl rfl) h0
  clear hA0 hval0
  refine (fair_law W A n cap hK).mono fun e W' ⟨he, hb⟩ => ?_
  subst he
  refine ⟨_, rfl, _, _, _, [], p, [], hW', ?_, ?_, ?_, hb.frame _, fun h => by cases h⟩
  · exact trodAll_mk1 (shut_bool Try.underlying4 true)
  · exact trodAll_mk1 (Below.trod (by kernel_rfl) (by kernel_rfl) (of_decide_eq_true (by kernel_rfl)) h0 hb hlt)
  · rfl

theorem keyFair_holds : Rows.KeyFairSaid :=
  OpenClaim.holds_of_wide 3 Try.f3 rfl rfl rfl rfl rfl rfl rfl ⟨rfl, rfl, rfl, rfl, rfl⟩ rfl rfl rfl rfl rfl (by kernel_rfl) Try.func3 (by kernel_rfl)
    (of_decide_eq_true (by kernel_rfl)) (by unfold Func.isWrapper; rw [if_neg (by decide +kernel)]; exact ⟨rfl, rfl⟩)
    (fun os started H enc _ => keyFair_lifted os started H enc)
end Go.Proofs.Ytemoagpahhdoeaa
