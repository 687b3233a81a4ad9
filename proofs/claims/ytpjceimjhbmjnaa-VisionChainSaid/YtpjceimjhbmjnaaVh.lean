/- VisionChain: numbers that are read, and the law, walked. No condition. -/
import Derived.Test.YtpjceimjhbmjnaaVb
namespace Go.Proofs.Ytpjceimjhbmjnaa
open Go.Sy
open Go.RowKit (Below)
set_option linter.unusedSimpArgs false
set_option linter.unusedVariables false
set_option maxRecDepth 100000

def idAt (F : Hp) (B : Option Addr) (i : Nat) : Int := F.int ((elAt B i 1).add 0)
def IdsF (F : Hp) (B : Option Addr) (m : Nat) : Prop := ∀ i : Nat, i < m → B.isSome = true ∧ cRead F (elAt B i 1) z1 ∧ 0 ≤ idAt F B i
def xmAt (F : Hp) (B : Option Addr) (m i : Nat) : Int := if i + 1 < m then idAt F B (i + 1) else 0

section
open Go.ChangeShapes Go.WideShapes Go.ChangeAt Go.RowKit Go.Joins Go.Deep
theorem open_ids {H : Type} {enc : TypeId × Value → H} {W : World} {base : Nat} {spare : Nat → Bool} {held : Bool} {r : Reach} {b0 : Nat} {v : Value} {d : DataW H} {p : List MemPlace} (hv : Value.okWide Try.prog W r b0 46 v) (h : DataW.Trod enc Try.prog W base spare held 46 v d p) :
    ∃ B m cap, v = .slice B m cap ∧ IdsF (fun k => W.heap[k]?) B m := by
  obtain ⟨A, n, cap, rfl⟩ := okWide_slice Try.underlying46 hv
  refine ⟨A, n, cap, rfl, ?_⟩
  obtain ⟨fuel, hf⟩ := h
  rcases open_slice1 Try.underlying46 cells22 hf with ⟨hc, _⟩ | ⟨a, len, cap', m, k, V, D, Pl, hc, _, hl, _, hm, _, hall⟩
  · simp [Value.cells] at hc
    obtain ⟨rfl, rfl, rfl⟩ := hc
    intro i hi
    omega
  · simp [Value.cells] at hc
    obtain ⟨rfl, rfl, rfl⟩ := hc
    intro i hi
    obtain ⟨h1, h2⟩ := hall i (by rw [hm]; split <;> omega)
    obtain ⟨x0, e0, _, w0⟩ := DataW.trod_int Try.underlying22 h2
    simp at e0
    rw [e0] at h1
    have e : Go.Sy.elAt (some a) (i : Int) 1 = a.add i := by simp [Go.Sy.elAt]
    have cell : Hp.cell (fun k => W.heap[k]?) (a.add i) = some (.int .u64 x0) := h1
    have i0 : Hp.int (fun k => W.heap[k]?) ((a.add i).add 0) = x0 := by rw [add0, Hp.int, cell]
    refine ⟨rfl, ?_, ?_⟩
    · rw [e]
      intro q c hq
      have hlt : q < 1 := by
        have := (List.getElem?_eq_some_iff.1 hq).1
        simpa [Go.Sy.rdT] using this
      have hq' : q = 0 := by omega
      subst hq'
      simp [Go.Sy.rdT] at hq
      subst hq
      exact ⟨_, rfl, by rw [i0, add0, cell]⟩
    · unfold idAt
      rw [e, i0]
      exact (wf_u64 w0).1
end

def chainSt (first : Int) (A : Option Addr) (n c : Nat) (e : Ey) (B : Option Addr) (m c2 : Nat) (cn : Int) (i : Nat) : SS :=
  ⟨[(2, sval (.slice B m c2)), (3, .e (.c (.ptr 3 0))), (4, .e (.c (.ptr 4 0))), (7, sval (vi cn)), (24, sval (.slice B m c2)), (25, sval (vi m)), (26, sval (vi i))],
   [(3, .blk 25 [.val (vu first), .val (.slice A n c)]), (4, .blk 27 [.val (vu e.own), .val (.bool e.reads), .val (vu e.snap)])], []⟩

/-- What holds ahead of a place: one is seen at most, and then no later one. -/
def ChainInv (F : Hp) (B : Option Addr) (m : Nat) (e : Ey) (first : Int) (l : List (Int × Int)) (i : Nat) (cn : Int) : Prop :=
  cn = 0 ∨ (cn = 1 ∧ 0 < i ∧ (cntV e first l (idAt F B (i - 1)) = false ∨ cntV e first l (xmAt F B m (i - 1)) = false))

theorem seen_cnt {e : Ey} {first : Int} {l : List (Int × Int)} {t : Tup} (h : seenV e first l t = true) : cntV e first l t.a = true ∧ cntV e first l t.b = false := by
  simp only [seenV, seeB, Bool.and_eq_true, Bool.not_eq_true'] at h
  obtain ⟨⟨h1, _⟩, h2, h3⟩ := h
  exact ⟨by simp [cntV, h1, h2], by simp [cntV, h3]⟩
theorem chain_step {F : Hp} {B : Option Addr} {m : Nat} {e : Ey} {first : Int} {l : List (Int × Int)} {i : Nat} {cn : Int} (hi : i < m) (h : ChainInv F B m e first l i cn) (hg : 0 < i → cntV e first l (idAt F B i) = true → cntV e first l (idAt F B (i - 1)) = true) {t : Tup} (ha : t.a = idAt F B i) (hb : t.b = xmAt F B m i) :
    (seenV e first l t = true → cn = 0 ∧ ChainInv F B m e first l (i + 1) 1) ∧ (seenV e first l t = false → ChainInv F B m e first l (i + 1) cn) := by
  have key : cn = 1 → cntV e first l (idAt F B i) = false := by
    intro h1
    rcases h with h | ⟨_, hp, h⟩
    · omega
    · rcases h with h | h
      · cases hq : cntV e first l (idAt F B i) with
        | false => rfl
        | true => rw [hg hp hq] at h; cases h
      · have : xmAt F B m (i - 1) = idAt F B i := by
          unfold xmAt
          rw [if_pos (by omega), show i - 1 + 1 = i by omega]
        rwa [this] at h
  constructor
  · intro hs
    obtain ⟨s1, s2⟩ := seen_cnt hs
    rw [ha] at s1
    rw [hb] at s2
    have h0 : cn = 0 := by
      rcases h with h | ⟨h, _⟩
      · exact h
      · rw [key h] at s1; cases s1
    exact ⟨h0, .inr ⟨rfl, by omega, .inr (by simpa using s2)⟩⟩
  · intro hs
    rcases h with h | ⟨h, h2⟩
    · exact .inl h
    · exact .inr ⟨h, by omega, .inl (by simpa using key h)⟩

set_option maxHeartbeats 8000000 in
theorem lawChain (w : World) (first : Int) (A : Option Addr) (n cap : Nat) (e : Ey) (B : Option Addr) (m c2 : Nat) (hK : FatesF (fun k => w.heap[k]?) A n) (hf : 0 ≤ first) (hI : IdsF (fun k => w.heap[k]?) B m) :
    Calls Try.prog 5 #[fatesVal first A n cap, eyeVal e, .slice B m c2] w fun e w' => e = .returned (.bool true) ∧ Below w.heap.size w w' := by
  refine pure_calls (vs := [fatesSE first A n cap, .e (eyS e), sval (.slice B m c2)]) (v := sval (.bool true)) (E := ⟨Ty, sp21, fun k => w.heap[k]?, 92, []⟩) Try.func5 rfl mixed Ty_ok sp21_ok rfl (by kernel_rfl) rfl rfl rfl ?_
  refine ⟨fun h => (no_t h (by kernel_rfl)).elim, fun _ => ?_⟩
  refine ⟨fun g0 => ⟨rfl, trivial⟩, fun g0 => ?_⟩
  refine ⟨fun g1 => ⟨rfl, trivial⟩, fun g1 => ?_⟩
  have hm : m ≤ 50 := by simp [ilt] at g1; omega
  refine ⟨{ p : Nat × Int // p.1 ≤ m ∧ ChainInv (fun k => w.heap[k]?) B m e first (fatesOf (fun k => w.heap[k]?) A n) p.1 p.2 }, fun p => chainSt first A n cap e B m c2 p.1.2 p.1.1, fun p => m - p.1.1, ⟨(0, 0), by omega, .inl rfl⟩, ?_, ?_⟩
  · exact ⟨fun x => x, rfl, rfl, ⟨by kernel_rfl, by kernel_rfl, by kernel_rfl, by kernel_rfl, by kernel_rfl, by kernel_rfl, by kernel_rfl, trivial⟩, ⟨by kernel_rfl, by kernel_rfl, trivial⟩, rfl, rfl, rfl⟩
  · rintro ⟨⟨i, cn⟩, hi, hc⟩
    simp only at hi hc
    refine ⟨fun h3 => ?_, fun h3 => ?_⟩
    · have hlt : i < m := by simp [ilt, vi] at h3; omega
      have e1 := step63 hlt (by omega)
      have cI : ∀ j : Nat, j < m → cIdx B m (j : Int) := fun j hj => ⟨(hI j hj).1, Int.natCast_nonneg _, Int.ofNat_lt.2 hj⟩
      refine ⟨cI i hlt, ?_⟩
      refine ⟨(hI i hlt).2.1, ?_⟩
      refine ⟨fun h2 => ?_, fun h2 => ?_⟩
      · have hnx : i + 1 < m := by
          have : ilt (iadd .i64 ((i : Nat) : Int) 1) (m : Nat) = true := h2
          rw [e1] at this
          simp [ilt] at this
          omega
        have hxm : Hp.int (fun k => w.heap[k]?) ((elAt B (iadd .i64 ((i : Nat) : Int) 1) 1).add 0) = xmAt (fun k => w.heap[k]?) B m i := by
          unfold xmAt idAt
          rw [if_pos hnx, e1]
        refine ⟨(by rw [e1]; exact cI (i + 1) hnx : cIdx B m (iadd .i64 ((i : Nat) : Int) 1)), ?_⟩
        refine ⟨(by rw [e1]; exact (hI (i + 1) hnx).2.1 : cRead (fun k => w.heap[k]?) (elAt B (iadd .i64 ((i : Nat) : Int) 1) 1) z1), ?_⟩
        obtain ⟨xm, hx⟩ : ∃ xm, Hp.int (fun k => w.heap[k]?) ((elAt B (iadd .i64 ((i : Nat) : Int) 1) 1).add 0) = xm := ⟨_, rfl⟩
        refine ⟨fun h4 => ?_, fun h4 => ?_⟩
        · have hpos : 0 < i := by simp [ilt, vi] at h4; omega
          obtain ⟨i', rfl⟩ : ∃ i', i = i' + 1 := ⟨i - 1, by omega⟩
          have e2 := sub63 (k := i') (by omega)
          refine ⟨(by rw [e2]; exact cI i' (by omega) : cIdx B m (isub .i64 ((i' + 1 : Nat) : Int) 1)), ?_⟩
          refine ⟨(by rw [e2]; exact (hI i' (by omega)).2.1 : cRead (fun k => w.heap[k]?) (elAt B (isub .i64 ((i' + 1 : Nat) : Int) 1) 1) z1), ?_⟩
          refine ⟨hK, ?_⟩
          refine ⟨by kernel_rfl, fun _ => ⟨rfl, trivial⟩, fun _ => ?_⟩
          refine ⟨fun _ => ?_, fun h => (no_t h4 h).elim⟩
          refine ⟨hK, ?_⟩
          refine ⟨fun h6 => ?_, fun h6 => ?_⟩
          · refine ⟨(by rw [e2]; exact cI i' (by omega) : cIdx B m (isub .i64 ((i' + 1 : Nat) : Int) 1)), ?_⟩
            refine ⟨(by rw [e2]; exact (hI i' (by omega)).2.1 : cRead (fun k => w.heap[k]?) (elAt B (isub .i64 ((i' + 1 : Nat) : Int) 1) 1) z1), ?_⟩
            refine ⟨hK, ?_⟩
            refine ⟨by kernel_rfl, fun _ => ⟨rfl, trivial⟩, fun h7 => ?_⟩
            have h7' : cntV e first (fatesOf (fun k => w.heap[k]?) A n) (idAt (fun k => w.heap[k]?) B (i' + 1 - 1)) = true := by
              have : (!cntV e first (fatesOf (fun k => w.heap[k]?) A n) (Hp.int (fun k => w.heap[k]?) ((elAt B (isub .i64 ((i' + 1 : Nat) : Int) 1) 1).add 0))) = false := h7
              rw [e2] at this
              simpa [idAt] using this
            refine ⟨hK, ?_⟩
            refine ⟨fun _ => ⟨rfl, trivial⟩, fun _ => ?_⟩
            obtain ⟨q1, q2⟩ := chain_step (t := ⟨1, idAt (fun k => w.heap[k]?) B (i' + 1), _, 0, 0, 0, 0, 0⟩) hlt hc (fun _ _ => h7') rfl hxm
            refine ⟨fun h9 => ?_, fun h9 => ?_⟩
            · obtain ⟨h0, hn⟩ := q1 h9
              refine ⟨⟨(i' + 1 + 1, 1), by simp; omega, hn⟩, ⟨fun x => x, rfl, rfl, ⟨by kernel_rfl, by kernel_rfl, by kernel_rfl, ?_, by kernel_rfl, by kernel_rfl, ?_, trivial⟩, ⟨by kernel_rfl, by kernel_rfl, trivial⟩, rfl, rfl, rfl⟩, by simp; omega⟩
              · exact congrArg (fun q => some (sval (vi q))) ((congrArg (fun q => iadd .i64 q 1) h0).trans (step63 (i := 0) (n := 1) (by omega) (by omega)))
              · exact congrArg (fun q => some (sval (vi q))) e1
            · refine ⟨⟨(i' + 1 + 1, cn), by simp; omega, q2 h9⟩, ⟨fun x => x, rfl, rfl, ⟨by kernel_rfl, by kernel_rfl, by kernel_rfl, by kernel_rfl, by kernel_rfl, by kernel_rfl, ?_, trivial⟩, ⟨by kernel_rfl, by kernel_rfl, trivial⟩, rfl, rfl, rfl⟩, by simp; omega⟩
              exact congrArg (fun q => some (sval (vi q))) e1
          · refine ⟨by kernel_rfl, ?_⟩
            refine ⟨hK, ?_⟩
            refine ⟨fun _ => ⟨rfl, trivial⟩, fun _ => ?_⟩
            obtain ⟨q1, q2⟩ := chain_step (t := ⟨1, idAt (fun k => w.heap[k]?) B (i' + 1), _, 0, 0, 0, 0, 0⟩) hlt hc (fun _ h => (no_t h h6).elim) rfl hxm
            refine ⟨fun h9 => ?_, fun h9 => ?_⟩
            · obtain ⟨h0, hn⟩ := q1 h9
              refine ⟨⟨(i' + 1 + 1, 1), by simp; omega, hn⟩, ⟨fun x => x, rfl, rfl, ⟨by kernel_rfl, by kernel_rfl, by kernel_rfl, ?_, by kernel_rfl, by kernel_rfl, ?_, trivial⟩, ⟨by kernel_rfl, by kernel_rfl, trivial⟩, rfl, rfl, rfl⟩, by simp; omega⟩
              · exact congrArg (fun q => some (sval (vi q))) ((congrArg (fun q => iadd .i64 q 1) h0).trans (step63 (i := 0) (n := 1) (by omega) (by omega)))
              · exact congrArg (fun q => some (sval (vi q))) e1
            · refine ⟨⟨(i' + 1 + 1, cn), by simp; omega, q2 h9⟩, ⟨fun x => x, rfl, rfl, ⟨by kernel_rfl, by kernel_rfl, by kernel_rfl, by kernel_rfl, by kernel_rfl, by kernel_rfl, ?_, trivial⟩, ⟨by kernel_rfl, by kernel_rfl, trivial⟩, rfl, rfl, rfl⟩, by simp; omega⟩
              exact congrArg (fun q => some (sval (vi q))) e1
        · have h0 : i = 0 := by simp [ilt, vi] at h4; omega
          refine ⟨by kernel_rfl, ?_⟩
          refine ⟨fun h => (no_t h h4).elim, fun _ => ?_⟩
          refine ⟨by kernel_rfl, ?_⟩
          refine ⟨hK, ?_⟩
          refine ⟨fun _ => ⟨rfl, trivial⟩, fun _ => ?_⟩
          obtain ⟨q1, q2⟩ := chain_step (t := ⟨1, idAt (fun k => w.heap[k]?) B (i), _, 0, 0, 0, 0, 0⟩) hlt hc (fun h _ => absurd h (by omega)) rfl hxm
          refine ⟨fun h9 => ?_, fun h9 => ?_⟩
          · obtain ⟨h0, hn⟩ := q1 h9
            refine ⟨⟨(i + 1, 1), by simp; omega, hn⟩, ⟨fun x => x, rfl, rfl, ⟨by kernel_rfl, by kernel_rfl, by kernel_rfl, ?_, by kernel_rfl, by kernel_rfl, ?_, trivial⟩, ⟨by kernel_rfl, by kernel_rfl, trivial⟩, rfl, rfl, rfl⟩, by simp; omega⟩
            · exact congrArg (fun q => some (sval (vi q))) ((congrArg (fun q => iadd .i64 q 1) h0).trans (step63 (i := 0) (n := 1) (by omega) (by omega)))
            · exact congrArg (fun q => some (sval (vi q))) e1
          · refine ⟨⟨(i + 1, cn), by simp; omega, q2 h9⟩, ⟨fun x => x, rfl, rfl, ⟨by kernel_rfl, by kernel_rfl, by kernel_rfl, by kernel_rfl, by kernel_rfl, by kernel_rfl, ?_, trivial⟩, ⟨by kernel_rfl, by kernel_rfl, trivial⟩, rfl, rfl, rfl⟩, by simp; omega⟩
            exact congrArg (fun q => some (sval (vi q))) e1
      · have hnx : ¬ i + 1 < m := by
          have : ilt (iadd .i64 ((i : Nat) : Int) 1) (m : Nat) = false := h2
          rw [e1] at this
          simp [ilt] at this
          omega
        have hxm : (0 : Int) = xmAt (fun k => w.heap[k]?) B m i := by
          unfold xmAt
          rw [if_neg hnx]
        refine ⟨fun h4 => ?_, fun h4 => ?_⟩
        · have hpos : 0 < i := by simp [ilt, vi] at h4; omega
          obtain ⟨i', rfl⟩ : ∃ i', i = i' + 1 := ⟨i - 1, by omega⟩
          have e2 := sub63 (k := i') (by omega)
          refine ⟨(by rw [e2]; exact cI i' (by omega) : cIdx B m (isub .i64 ((i' + 1 : Nat) : Int) 1)), ?_⟩
          refine ⟨(by rw [e2]; exact (hI i' (by omega)).2.1 : cRead (fun k => w.heap[k]?) (elAt B (isub .i64 ((i' + 1 : Nat) : Int) 1) 1) z1), ?_⟩
          refine ⟨hK, ?_⟩
          refine ⟨by kernel_rfl, fun _ => ⟨rfl, trivial⟩, fun _ => ?_⟩
          refine ⟨fun _ => ?_, fun h => (no_t h4 h).elim⟩
          refine ⟨hK, ?_⟩
          refine ⟨fun h6 => ?_, fun h6 => ?_⟩
          · refine ⟨(by rw [e2]; exact cI i' (by omega) : cIdx B m (isub .i64 ((i' + 1 : Nat) : Int) 1)), ?_⟩
            refine ⟨(by rw [e2]; exact (hI i' (by omega)).2.1 : cRead (fun k => w.heap[k]?) (elAt B (isub .i64 ((i' + 1 : Nat) : Int) 1) 1) z1), ?_⟩
            refine ⟨hK, ?_⟩
            refine ⟨by kernel_rfl, fun _ => ⟨rfl, trivial⟩, fun h7 => ?_⟩
            have h7' : cntV e first (fatesOf (fun k => w.heap[k]?) A n) (idAt (fun k => w.heap[k]?) B (i' + 1 - 1)) = true := by
              have : (!cntV e first (fatesOf (fun k => w.heap[k]?) A n) (Hp.int (fun k => w.heap[k]?) ((elAt B (isub .i64 ((i' + 1 : Nat) : Int) 1) 1).add 0))) = false := h7
              rw [e2] at this
              simpa [idAt] using this
            refine ⟨hK, ?_⟩
            refine ⟨fun _ => ⟨rfl, trivial⟩, fun _ => ?_⟩
            obtain ⟨q1, q2⟩ := chain_step (t := ⟨1, idAt (fun k => w.heap[k]?) B (i' + 1), 0, 0, 0, 0, 0, 0⟩) hlt hc (fun _ _ => h7') rfl hxm
            refine ⟨fun h9 => ?_, fun h9 => ?_⟩
            · obtain ⟨h0, hn⟩ := q1 h9
              refine ⟨⟨(i' + 1 + 1, 1), by simp; omega, hn⟩, ⟨fun x => x, rfl, rfl, ⟨by kernel_rfl, by kernel_rfl, by kernel_rfl, ?_, by kernel_rfl, by kernel_rfl, ?_, trivial⟩, ⟨by kernel_rfl, by kernel_rfl, trivial⟩, rfl, rfl, rfl⟩, by simp; omega⟩
              · exact congrArg (fun q => some (sval (vi q))) ((congrArg (fun q => iadd .i64 q 1) h0).trans (step63 (i := 0) (n := 1) (by omega) (by omega)))
              · exact congrArg (fun q => some (sval (vi q))) e1
            · refine ⟨⟨(i' + 1 + 1, cn), by simp; omega, q2 h9⟩, ⟨fun x => x, rfl, rfl, ⟨by kernel_rfl, by kernel_rfl, by kernel_rfl, by kernel_rfl, by kernel_rfl, by kernel_rfl, ?_, trivial⟩, ⟨by kernel_rfl, by kernel_rfl, trivial⟩, rfl, rfl, rfl⟩, by simp; omega⟩
              exact congrArg (fun q => some (sval (vi q))) e1
          · refine ⟨by kernel_rfl, ?_⟩
            refine ⟨hK, ?_⟩
            refine ⟨fun _ => ⟨rfl, trivial⟩, fun _ => ?_⟩
            obtain ⟨q1, q2⟩ := chain_step (t := ⟨1, idAt (fun k => w.heap[k]?) B (i' + 1), 0, 0, 0, 0, 0, 0⟩) hlt hc (fun _ h => (no_t h h6).elim) rfl hxm
            refine ⟨fun h9 => ?_, fun h9 => ?_⟩
            · obtain ⟨h0, hn⟩ := q1 h9
              refine ⟨⟨(i' + 1 + 1, 1), by simp; omega, hn⟩, ⟨fun x => x, rfl, rfl, ⟨by kernel_rfl, by kernel_rfl, by kernel_rfl, ?_, by kernel_rfl, by kernel_rfl, ?_, trivial⟩, ⟨by kernel_rfl, by kernel_rfl, trivial⟩, rfl, rfl, rfl⟩, by simp; omega⟩
              · exact congrArg (fun q => some (sval (vi q))) ((congrArg (fun q => iadd .i64 q 1) h0).trans (step63 (i := 0) (n := 1) (by omega) (by omega)))
              · exact congrArg (fun q => some (sval (vi q))) e1
            · refine ⟨⟨(i' + 1 + 1, cn), by simp; omega, q2 h9⟩, ⟨fun x => x, rfl, rfl, ⟨by kernel_rfl, by kernel_rfl, by kernel_rfl, by kernel_rfl, by kernel_rfl, by kernel_rfl, ?_, trivial⟩, ⟨by kernel_rfl, by kernel_rfl, trivial⟩, rfl, rfl, rfl⟩, by simp; omega⟩
              exact congrArg (fun q => some (sval (vi q))) e1
        · have h0 : i = 0 := by simp [ilt, vi] at h4; omega
          refine ⟨by kernel_rfl, ?_⟩
          refine ⟨fun h => (no_t h h4).elim, fun _ => ?_⟩
          refine ⟨by kernel_rfl, ?_⟩
          refine ⟨hK, ?_⟩
          refine ⟨fun _ => ⟨rfl, trivial⟩, fun _ => ?_⟩
          obtain ⟨q1, q2⟩ := chain_step (t := ⟨1, idAt (fun k => w.heap[k]?) B (i), 0, 0, 0, 0, 0, 0⟩) hlt hc (fun h _ => absurd h (by omega)) rfl hxm
          refine ⟨fun h9 => ?_, fun h9 => ?_⟩
          · obtain ⟨h0, hn⟩ := q1 h9
            refine ⟨⟨(i + 1, 1), by simp; omega, hn⟩, ⟨fun x => x, rfl, rfl, ⟨by kernel_rfl, by kernel_rfl, by kernel_rfl, ?_, by kernel_rfl, by kernel_rfl, ?_, trivial⟩, ⟨by kernel_rfl, by kernel_rfl, trivial⟩, rfl, rfl, rfl⟩, by simp; omega⟩
            · exact congrArg (fun q => some (sval (vi q))) ((congrArg (fun q => iadd .i64 q 1) h0).trans (step63 (i := 0) (n := 1) (by omega) (by omega)))
            · exact congrArg (fun q => some (sval (vi q))) e1
          · refine ⟨⟨(i + 1, cn), by simp; omega, q2 h9⟩, ⟨fun x => x, rfl, rfl, ⟨by kernel_rfl, by kernel_rfl, by kernel_rfl, by kernel_rfl, by kernel_rfl, by kernel_rfl, ?_, trivial⟩, ⟨by kernel_rfl, by kernel_rfl, trivial⟩, rfl, rfl, rfl⟩, by simp; omega⟩
            exact congrArg (fun q => some (sval (vi q))) e1
    · have : cn ≤ 1 := by rcases hc with h | ⟨h, _⟩ <;> omega
      exact ⟨(show ile cn 1 = true from by simp [ile, this]), trivial⟩
end Go.Proofs.Ytpjceimjhbmjnaa
