/- Lists of keys that are read; the least box that covers all. No condition. -/
import Derived.Test.YtemoagpahhdoeaaK2
namespace Go.Proofs.Ytemoagpahhdoeaa
open Go.Sy
set_option linter.unusedSimpArgs false
set_option linter.unusedVariables false
set_option maxRecDepth 100000

abbrev z4 : List Value := [.int .i64 0, .int .i64 0, .int .i64 0, .int .i64 0]
def keyAt (F : Hp) (A : Option Addr) (i : Nat) : Key := ⟨F.int ((elAt A i 4).add 0), F.int ((elAt A i 4).add 1), F.int ((elAt A i 4).add 2), F.int ((elAt A i 4).add 3)⟩
def KeysF (F : Hp) (A : Option Addr) (n : Nat) : Prop := ∀ i : Nat, i < n → A.isSome = true ∧ cRead F (elAt A i 4) z4
def keysOf (F : Hp) (A : Option Addr) (n : Nat) : List Key := (List.range n).map (keyAt F A)

theorem cRead_int {F G : Hp} (h : ∀ k o, F k = some o → G k = some o) {B : Addr} (hc : cRead F B z4) : cRead G B z4 ∧ ∀ j, j < 4 → G.int (B.add j) = F.int (B.add j) := by
  have cell : ∀ a v, F.cell a = some v → G.cell a = some v := fun a v hv => by
    unfold Hp.cell at hv ⊢
    split at hv
    · rename_i c t f hF
      rw [h _ _ hF]
      exact hv
    · cases hv
  have e : ∀ j, j < 4 → F.cell (B.add j) = some (.int .i64 (F.int (B.add j))) := fun j hj => by
    have hj' : j = 0 ∨ j = 1 ∨ j = 2 ∨ j = 3 := by omega
    obtain ⟨v, hv, hF⟩ := hc j (.val (.int .i64 (F.int (B.add j)))) (by rcases hj' with rfl | rfl | rfl | rfl <;> rfl)
    cases hv; exact hF
  have e' : ∀ j, j < 4 → G.int (B.add j) = F.int (B.add j) := fun j hj => by
    have := cell _ _ (e j hj)
    unfold Hp.int
    rw [this, e j hj]
  refine ⟨?_, e'⟩
  intro j c hj
  have hlt : j < 4 := by
    have := (List.getElem?_eq_some_iff.1 hj).1
    simpa [rdT] using this
  have hj' : j = 0 ∨ j = 1 ∨ j = 2 ∨ j = 3 := by omega
  rcases hj' with rfl | rfl | rfl | rfl <;> (simp [rdT] at hj; subst hj; exact ⟨_, rfl, by rw [cell _ _ (e _ hlt), e' _ hlt]⟩)
theorem keys_mono {F G : Hp} (h : ∀ k o, F k = some o → G k = some o) {A : Option Addr} {n : Nat} (hk : KeysF F A n) : KeysF G A n ∧ keysOf G A n = keysOf F A n := by
  refine ⟨fun i hi => ⟨(hk i hi).1, (cRead_int h (hk i hi).2).1⟩, ?_⟩
  unfold keysOf
  refine List.map_congr_left (fun i hi => ?_)
  obtain ⟨_, e⟩ := cRead_int h (hk i (List.mem_range.1 hi)).2
  unfold keyAt
  rw [e 0 (by omega), e 1 (by omega), e 2 (by omega), e 3 (by omega)]
theorem keysOf_get (F : Hp) (A : Option Addr) {n i : Nat} (hi : i < n) : (keysOf F A n).drop i = keyAt F A i :: (keysOf F A n).drop (i + 1) := by
  rw [List.drop_eq_getElem_cons (by simpa [keysOf] using hi)]
  simp [keysOf]

def bndL : Key → List Key → Option Key
  | out, [] => some out
  | out, k :: r => if boxB k then bndL (uni out k) r else none
def bnd : List Key → Option Key
  | [] => none
  | k :: r => bndL k (k :: r)
@[irreducible] def bndK (l : List Key) : Key := (bnd l).getD ⟨0, 0, 0, 0⟩
@[irreducible] def bndE (l : List Key) : Int := if (bnd l).isSome then 0 else 2

theorem step63 {i n : Nat} (h : i < n) (hn : n ≤ 1048576) : iadd .i64 (i : Int) 1 = ((i + 1 : Nat) : Int) := by
  unfold iadd IntKind.wrap
  simp [IntKind.bits, IntKind.signed]
  omega
def boundSt (A : Option Addr) (n c : Nat) (i : Nat) (k : Key) : SS :=
  ⟨[(2, .e (.c (.ptr 2 0))), (4, .e (.c (.ptr 4 0))), (14, sval (.slice A n c)), (15, sval (.int .i64 n)), (16, sval (.int .i64 i))],
   [(2, .blk 32 [.val (.int .i64 0), .val (.int .i64 0), .val (.int .i64 0), .val (.int .i64 0)]), (4, .blk 32 [.val (.int .i64 k.x0), .val (.int .i64 k.x1), .val (.int .i64 k.y0), .val (.int .i64 k.y1)])], []⟩

def boundG : PureG := fun F vs => match vs with
  | [.e (.c (.val (.slice A n _)))] => some (.p (KeysF F A n ∧ n ≤ 1048576), .tup [kv (bndK (keysOf F A n)), .c (.val (.int .i64 (bndE (keysOf F A n))))])
  | _ => none
theorem bound_ok : SpecOK Try.prog 17 (pureS boundG) := by
  refine pure_ok ⟨_, _, Try.func17, rfl, by kernel_rfl⟩ ?_
  intro F vs c v hp hc
  unfold boundG at hp
  split at hp
  · rename_i A n cap
    cases hp
    refine ⟨rfl, rfl, fun w hF => ?_⟩
    obtain ⟨hK0, hn⟩ := hc
    obtain ⟨hK, heq⟩ := keys_mono hF hK0
    rw [← heq]
    refine pure_calls (E := ⟨Ty, sp17, fun k => w.heap[k]?, 29, []⟩) Try.func17 rfl mixed Ty_ok sp17_ok rfl (by kernel_rfl) rfl rfl rfl ?_
    refine ⟨fun h1 => ?_, fun h1 => ?_⟩
    · have h0 : n = 0 := by simp [ieq] at h1; omega
      subst h0
      exact ⟨rfl, by simp [bndK, keysOf, bnd], rfl, by simp [bndK, keysOf, bnd], rfl, by simp [bndK, keysOf, bnd], rfl, by simp [bndK, keysOf, bnd], rfl, by simp [bndE, keysOf, bnd], trivial⟩
    · have hpos : 0 < n := by simp [ieq] at h1; omega
      refine ⟨⟨(hK 0 hpos).1, by omega, by omega⟩, ?_⟩
      refine ⟨(hK 0 hpos).2, ?_⟩
      refine ⟨{ p : Nat × Key // p.1 ≤ n ∧ bndL p.2 ((keysOf (fun k => w.heap[k]?) A n).drop p.1) = bnd (keysOf (fun k => w.heap[k]?) A n) }, fun p => boundSt A n cap p.1.1 p.1.2, fun p => n - p.1.1, ⟨(0, keyAt (fun k => w.heap[k]?) A 0), by omega, ?_⟩, ?_, ?_⟩
      · have := keysOf_get (fun k => w.heap[k]?) A hpos
        simp only [List.drop_zero] at this ⊢
        rw [this]; rfl
      · exact ⟨fun x => x, rfl, rfl, ⟨by kernel_rfl, by kernel_rfl, by kernel_rfl, by kernel_rfl, by kernel_rfl, trivial⟩, ⟨by kernel_rfl, by kernel_rfl, trivial⟩, rfl, rfl, rfl⟩
      · rintro ⟨⟨i, k⟩, hi, hb⟩
        simp only at hi hb
        refine ⟨fun h2 => ?_, fun h2 => ?_⟩
        · have hlt : i < n := by simp [ilt] at h2; omega
          rw [keysOf_get _ A hlt] at hb
          refine ⟨⟨(hK i hlt).1, Int.natCast_nonneg _, Int.ofNat_lt.2 hlt⟩, ?_⟩
          refine ⟨(hK i hlt).2, ?_⟩
          refine ⟨fun h3 => ?_, fun h3 => ?_⟩
          · have h3' : (!boxB (keyAt (fun k => w.heap[k]?) A i)) = true := h3
            have h4 : bnd (keysOf (fun k => w.heap[k]?) A n) = none := by
              rw [← hb]; simp at h3'; simp [bndL, h3']
            exact ⟨rfl, by simp [bndK, h4], rfl, by simp [bndK, h4], rfl, by simp [bndK, h4], rfl, by simp [bndK, h4], rfl, by simp [bndE, h4], trivial⟩
          · have h3' : (!boxB (keyAt (fun k => w.heap[k]?) A i)) = false := h3
            simp at h3'
            simp only [bndL, h3', if_true] at hb
            refine ⟨⟨(i + 1, uni k (keyAt (fun k => w.heap[k]?) A i)), by simp; omega, hb⟩, ⟨fun x => x, rfl, rfl, ⟨by kernel_rfl, by kernel_rfl, by kernel_rfl, by kernel_rfl, ?_, trivial⟩, ⟨by kernel_rfl, by kernel_rfl, trivial⟩, rfl, rfl, rfl⟩, by simp; omega⟩
            have := step63 hlt hn
            simp [lk_cons, SV.ren, SE.ren, SC.ren, sval, this]
        · have : i = n := by simp [ilt] at h2; omega
          subst this
          have h4 : bnd (keysOf (fun k => w.heap[k]?) A i) = some k := by
            rw [← hb, List.drop_eq_nil_of_le (by simp [keysOf])]; rfl
          exact ⟨rfl, by simp [bndK, h4], rfl, by simp [bndK, h4], rfl, by simp [bndK, h4], rfl, by simp [bndK, h4], rfl, by simp [bndE, h4], trivial⟩
  · cases hp
def sp18 : Specs := consSp 17 (pureS boundG) sp17
theorem sp18_ok : SpecsOK Try.prog sp18 := specs_cons bound_ok sp17_ok
end Go.Proofs.Ytemoagpahhdoeaa
