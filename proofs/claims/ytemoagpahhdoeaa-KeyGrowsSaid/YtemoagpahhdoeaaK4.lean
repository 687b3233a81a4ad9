/- The two boxes that are parted first. No condition. -/
import Derived.Test.YtemoagpahhdoeaaK3
namespace Go.Proofs.Ytemoagpahhdoeaa
open Go.Sy
set_option linter.unusedSimpArgs false
set_option linter.unusedVariables false
set_option maxRecDepth 100000

structure Sd where
  l : Int
  r : Int
  most : Sz
def kg (l : List Key) (i : Nat) : Key := l.getD i ⟨0, 0, 0, 0⟩
def sdStep (l : List Key) (i k : Nat) (s : Sd) : Sd := if belowS s.most (wasteS (kg l i) (kg l k)) then ⟨i, k, wasteS (kg l i) (kg l k)⟩ else s
def sdIn (l : List Key) (i : Nat) : Nat → Nat → Sd → Sd
  | 0, _, s => s
  | f + 1, k, s => sdIn l i f (k + 1) (sdStep l i k s)
def sdOut (l : List Key) (n : Nat) : Nat → Nat → Sd → Sd
  | 0, _, s => s
  | f + 1, i, s => sdOut l n f (i + 1) (sdIn l i (n - (i + 1)) (i + 1) s)
def seedsM (l : List Key) : Sd := sdOut l l.length l.length 0 ⟨0, 1, wasteS (kg l 0) (kg l 1)⟩
@[irreducible] def seedL (l : List Key) : Int := (seedsM l).l
@[irreducible] def seedR (l : List Key) : Int := (seedsM l).r

theorem kg_keys (F : Hp) (A : Option Addr) {n i : Nat} (hi : i < n) : kg (keysOf F A n) i = keyAt F A i := by
  simp [kg, keysOf, hi]
theorem keysOf_len (F : Hp) (A : Option Addr) (n : Nat) : (keysOf F A n).length = n := by simp [keysOf]

def seedBlk (s : Sz) : Atom := .blk 53 [.val (.int .u64 s.area.hi), .val (.int .u64 s.area.lo), .val (.int .u64 s.margin.hi), .val (.int .u64 s.margin.lo)]
def seedSt1 (A : Option Addr) (n c : Nat) (p : Nat × Sd) : SS :=
  ⟨[(0, sval (.slice A n c)), (4, sval (.int .i64 p.2.l)), (5, sval (.int .i64 p.2.r)), (6, .e (.c (.ptr 6 0))), (18, sval (.int .i64 n)), (19, sval (.int .i64 p.1))], [(6, seedBlk p.2.most)], []⟩
def seedSt2 (A : Option Addr) (n c i : Nat) (p : Nat × Sd) : SS :=
  ⟨[(0, sval (.slice A n c)), (4, sval (.int .i64 p.2.l)), (5, sval (.int .i64 p.2.r)), (6, .e (.c (.ptr 6 0))), (7, sval (.int .i64 i)), (8, sval (.int .i64 p.1)), (18, sval (.int .i64 n)), (19, sval (.int .i64 i))], [(6, seedBlk p.2.most)], []⟩

def seedsG : PureG := fun F vs => match vs with
  | [.e (.c (.val (.slice A n _)))] => some (.p (KeysF F A n ∧ 2 ≤ n ∧ n ≤ 1048576), .tup [.c (.val (.int .i64 (seedL (keysOf F A n)))), .c (.val (.int .i64 (seedR (keysOf F A n))))])
  | _ => none
theorem seeds_ok : SpecOK Try.prog 18 (pureS seedsG) := by
  refine pure_ok ⟨_, _, Try.func18, rfl, by kernel_rfl⟩ ?_
  intro F vs c v hp hc
  unfold seedsG at hp
  split at hp
  · rename_i A n cap
    cases hp
    refine ⟨rfl, rfl, fun w hF => ?_⟩
    obtain ⟨hK0, h2n, hn⟩ := hc
    obtain ⟨hK, heq⟩ := keys_mono hF hK0
    rw [← heq]
    obtain ⟨l, hl⟩ : ∃ l, keysOf (fun k => w.heap[k]?) A n = l := ⟨_, rfl⟩
    have hkg : ∀ i, i < n → kg l i = keyAt (fun k => w.heap[k]?) A i := fun i hi => by rw [← hl]; exact kg_keys _ A hi
    have hlen : l.length = n := by rw [← hl]; exact keysOf_len _ A n
    rw [hl]
    refine pure_calls (E := ⟨Ty, sp18, fun k => w.heap[k]?, 53, []⟩) Try.func18 rfl mixed Ty_ok sp18_ok rfl (by kernel_rfl) rfl rfl rfl ?_
    refine ⟨⟨(hK 0 (by omega)).1, by omega, by omega⟩, ?_⟩
    refine ⟨(hK 0 (by omega)).2, ?_⟩
    refine ⟨⟨(hK 1 (by omega)).1, by omega, by omega⟩, ?_⟩
    refine ⟨(hK 1 (by omega)).2, ?_⟩
    refine ⟨by kernel_rfl, ?_⟩
    refine ⟨{ p : Nat × Sd // p.1 ≤ n ∧ sdOut l n (n - p.1) p.1 p.2 = seedsM l }, fun p => seedSt1 A n cap p.1, fun p => n - p.1.1, ⟨(0, ⟨0, 1, wasteS (keyAt (fun k => w.heap[k]?) A 0) (keyAt (fun k => w.heap[k]?) A 1)⟩), by omega, by rw [← hkg 0 (by omega), ← hkg 1 (by omega)]; simp [seedsM, hlen]⟩, ?_, ?_⟩
    · refine ⟨fun x => x, rfl, rfl, ⟨by kernel_rfl, by kernel_rfl, by kernel_rfl, by kernel_rfl, by kernel_rfl, by kernel_rfl, trivial⟩, ⟨by kernel_rfl, trivial⟩, rfl, rfl, rfl⟩
    · rintro ⟨⟨i, s⟩, hi, hs⟩
      simp only at hi hs
      refine ⟨fun h1 => ?_, fun h1 => ?_⟩
      · have hlt : i < n := by simp [ilt] at h1; omega
        have e1 := step63 hlt hn
        refine ⟨{ p : Nat × Sd // i + 1 ≤ p.1 ∧ p.1 ≤ n ∧ sdIn l i (n - p.1) p.1 p.2 = sdIn l i (n - (i + 1)) (i + 1) s }, fun p => seedSt2 A n cap i p.1, fun p => n - p.1.1, ⟨(i + 1, s), by simp, by simp; omega, rfl⟩, ?_, ?_⟩
        · refine ⟨fun x => x, rfl, rfl, ⟨by kernel_rfl, by kernel_rfl, by kernel_rfl, by kernel_rfl, by kernel_rfl, ?_, by kernel_rfl, by kernel_rfl, trivial⟩, ⟨by kernel_rfl, trivial⟩, rfl, rfl, rfl⟩
          simp [lk_cons, SV.ren, SE.ren, SC.ren, sval, e1]
        · rintro ⟨⟨k, t⟩, hk1, hk2, hk3⟩
          simp only at hk1 hk2 hk3
          refine ⟨fun h2 => ?_, fun h2 => ?_⟩
          · have hlt2 : k < n := by simp [ilt] at h2; omega
            have e2 := step63 hlt2 hn
            have hf : n - k = (n - (k + 1)) + 1 := by omega
            rw [hf] at hk3
            simp only [sdIn] at hk3
            refine ⟨fun h3 => ?_, fun h3 => ?_⟩
            · have h3' : ieq (iadd .i64 i 1) n = true := h3
              rw [e1] at h3'
              simp [ieq] at h3'
              omega
            · refine ⟨⟨(hK i hlt).1, Int.natCast_nonneg _, Int.ofNat_lt.2 hlt⟩, ?_⟩
              refine ⟨(hK i hlt).2, ?_⟩
              refine ⟨⟨(hK k hlt2).1, Int.natCast_nonneg _, Int.ofNat_lt.2 hlt2⟩, ?_⟩
              refine ⟨(hK k hlt2).2, ?_⟩
              refine ⟨by kernel_rfl, ?_⟩
              refine ⟨fun h4 => ?_, fun h4 => ?_⟩
              · have h4' : belowS t.most (wasteS (keyAt (fun k => w.heap[k]?) A i) (keyAt (fun k => w.heap[k]?) A k)) = true := h4
                rw [← hkg i hlt, ← hkg k hlt2] at h4'
                simp only [sdStep, h4', if_true] at hk3
                rw [hkg i hlt, hkg k hlt2] at hk3
                refine ⟨by kernel_rfl, ?_⟩
                refine ⟨⟨(k + 1, ⟨i, k, wasteS (keyAt (fun k => w.heap[k]?) A i) (keyAt (fun k => w.heap[k]?) A k)⟩), by simp; omega, by simp; omega, hk3⟩, ⟨fun x => x, rfl, rfl, ⟨by kernel_rfl, by kernel_rfl, by kernel_rfl, by kernel_rfl, by kernel_rfl, ?_, by kernel_rfl, by kernel_rfl, trivial⟩, ⟨by kernel_rfl, trivial⟩, rfl, rfl, rfl⟩, by simp; omega⟩
                simp [lk_cons, SV.ren, SE.ren, SC.ren, sval, e2]
              · have h4' : belowS t.most (wasteS (keyAt (fun k => w.heap[k]?) A i) (keyAt (fun k => w.heap[k]?) A k)) = false := h4
                rw [← hkg i hlt, ← hkg k hlt2] at h4'
                simp only [sdStep, h4', Bool.false_eq_true, if_false] at hk3
                refine ⟨⟨(k + 1, t), by simp; omega, by simp; omega, hk3⟩, ⟨fun x => x, rfl, rfl, ⟨by kernel_rfl, by kernel_rfl, by kernel_rfl, by kernel_rfl, by kernel_rfl, ?_, by kernel_rfl, by kernel_rfl, trivial⟩, ⟨by kernel_rfl, trivial⟩, rfl, rfl, rfl⟩, by simp; omega⟩
                simp [lk_cons, SV.ren, SE.ren, SC.ren, sval, e2]
          · have hkn : k = n := by simp [ilt] at h2; omega
            subst hkn
            simp only [Nat.sub_self, sdIn] at hk3
            have hf : k - i = (k - (i + 1)) + 1 := by omega
            rw [hf] at hs
            simp only [sdOut] at hs
            rw [← hk3] at hs
            refine ⟨⟨(i + 1, t), by simp; omega, hs⟩, ⟨fun x => x, rfl, rfl, ⟨by kernel_rfl, by kernel_rfl, by kernel_rfl, by kernel_rfl, by kernel_rfl, ?_, trivial⟩, ⟨by kernel_rfl, trivial⟩, rfl, rfl, rfl⟩, by simp; omega⟩
            simp [lk_cons, SV.ren, SE.ren, SC.ren, sval, e1]
      · have hin : i = n := by simp [ilt] at h1; omega
        subst hin
        simp only [Nat.sub_self, sdOut] at hs
        exact ⟨rfl, by simp [seedL, ← hs], rfl, by simp [seedR, ← hs], trivial⟩
  · cases hp
def sp19 : Specs := consSp 18 (pureS seedsG) sp18
theorem sp19_ok : SpecsOK Try.prog sp19 := specs_cons seeds_ok sp18_ok
end Go.Proofs.Ytemoagpahhdoeaa
