/- A list of boxes, parted. No condition. -/
import Derived.Test.YtemoagpahhdoeaaK7
namespace Go.Proofs.Ytemoagpahhdoeaa
open Go.Sy
set_option linter.unusedSimpArgs false
set_option linter.unusedVariables false
set_option maxRecDepth 100000

theorem sdIn_bound {l : List Key} {i n : Nat} (hi : i < n) : ∀ (f k : Nat) (s : Sd), i < k → k + f ≤ n → (0 ≤ s.l ∧ s.l < s.r ∧ s.r < n) → (0 ≤ (sdIn l i f k s).l ∧ (sdIn l i f k s).l < (sdIn l i f k s).r ∧ (sdIn l i f k s).r < n)
  | 0, k, s, _, _, h => h
  | f + 1, k, s, h1, h2, h => by
    simp only [sdIn]
    refine sdIn_bound hi f (k + 1) _ (by omega) (by omega) ?_
    unfold sdStep
    split
    · simp only; omega
    · exact h
theorem sdOut_bound {l : List Key} {n : Nat} : ∀ (f i : Nat) (s : Sd), i + f ≤ n → (0 ≤ s.l ∧ s.l < s.r ∧ s.r < n) → (0 ≤ (sdOut l n f i s).l ∧ (sdOut l n f i s).l < (sdOut l n f i s).r ∧ (sdOut l n f i s).r < n)
  | 0, i, s, _, h => h
  | f + 1, i, s, h1, h => by
    simp only [sdOut]
    exact sdOut_bound f (i + 1) _ (by omega) (sdIn_bound (by omega) _ _ _ (by omega) (by omega) h)
theorem seed_bound {l : List Key} (h : 2 ≤ l.length) : 0 ≤ seedL l ∧ seedL l < seedR l ∧ seedR l < l.length := by
  unfold seedL seedR seedsM
  exact sdOut_bound _ _ _ (by omega) ⟨by simp, by simp, by simp; omega⟩

structure Sides where
  pa : List Int
  ka : Key
  pb : List Int
  kb : Key
  lf : Int
@[irreducible] def leastM (n : Int) : Int := mx (iquo .i64 (imul .i64 2 n) 5) 1
def ptStep (l : List Key) (n : Nat) (s : Sides) : Sides :=
  if ieq n (seedL l) || ieq n (seedR l) then s
  else if chA s.pa.length s.pb.length s.lf (leastM l.length) s.ka s.kb (kg l n) then ⟨s.pa ++ [(n : Int)], uni s.ka (kg l n), s.pb, s.kb, isub .i64 s.lf 1⟩
  else ⟨s.pa, s.ka, s.pb ++ [(n : Int)], uni s.kb (kg l n), isub .i64 s.lf 1⟩
def ptOut (l : List Key) : Nat → Nat → Sides → Sides
  | 0, _, s => s
  | f + 1, n, s => ptOut l f (n + 1) (ptStep l n s)
def pt0 (l : List Key) : Sides := ⟨[seedL l], kg l (seedL l).toNat, [seedR l], kg l (seedR l).toNat, isub .i64 l.length 2⟩
def partM (l : List Key) : Sides := ptOut l l.length 0 (pt0 l)
def badL (l : List Key) : Bool := ine (bndE l) 0 || ilt l.length 2

def keyAtI (F : Hp) (A : Option Addr) (i : Int) : Key := ⟨F.int ((elAt A i 4).add 0), F.int ((elAt A i 4).add 1), F.int ((elAt A i 4).add 2), F.int ((elAt A i 4).add 3)⟩
theorem keyAtI_eq (F : Hp) (A : Option Addr) {i : Int} (h : 0 ≤ i) : keyAtI F A i = keyAt F A i.toNat := by
  unfold keyAtI keyAt
  rw [show ((i.toNat : Nat) : Int) = i from Int.toNat_of_nonneg h]

def partSt (A : Option Addr) (n c : Nat) (l : List Key) (p : Nat × Sides) : SS :=
  ⟨[(0, sval (.slice A n c)), (7, sval (vi (seedL l))), (8, sval (vi (seedR l))), (9, .e (.c (.ptr 9 0))), (10, .e (.c (.ptr 10 0))), (11, .e (.c (.ptr 11 0))), (12, .e (.c (.ptr 12 0))), (13, .e (.c (.fn 19 [] [(9, 0), (12, 0), (11, 0), (10, 0)]))), (61, sval (.slice A n c)), (62, sval (vi n)), (63, sval (vi p.1))],
   [(9, .blk 46 [.ptr 43 0]), (10, .blk 46 [.ptr 51 0]), (11, .blk 3 [.val (vi (leastM n))]), (12, .blk 3 [.val (vi p.2.lf)]), (43, sideA 201 p.2.pa.length p.2.ka), (51, sideA 202 p.2.pb.length p.2.kb), (201, .row 3 1 p.2.pa.length (p.2.pa.map vi)), (202, .row 3 1 p.2.pb.length (p.2.pb.map vi))], []⟩

def nilS : SE := .c (.val (.slice none 0 0))
def iE (n : Int) : SE := .c (.val (vi n))
def partT (l : List Key) : SV := .tup [.c (.sli 2001 (partM l).pa.length), .c (.sli 2002 (partM l).pb.length), iE 0]
def partH (l : List Key) : List (Nat × Atom) := [(2001, .row 3 1 (partM l).pa.length ((sortM (partM l).pa).map vi)), (2002, .row 3 1 (partM l).pb.length ((sortM (partM l).pb).map vi))]

theorem part_calls {w : World} {A : Option Addr} {n cap : Nat} (hK : KeysF (fun k => w.heap[k]?) A n) {l : List Key} (hl : keysOf (fun k => w.heap[k]?) A n = l) {v : SV} {hl' : List (Nat × Atom)}
    (h1 : ilt 64 n = true → v = .tup [nilS, nilS, iE 3] ∧ hl' = []) (h2 : ilt 64 n = false → badL l = true → v = .tup [nilS, nilS, iE 2] ∧ hl' = []) (h3 : ilt 64 n = false → badL l = false → v = partT l ∧ hl' = partH l) :
    Calls Try.prog 8 #[.slice A n cap] w fun e w' => ∃ ρ' h', e = .returned (v.den ρ') ∧ v.ok ρ' ∧ HSat (fun k => w.heap[k]?) (lk hl') ρ' h' w' ∧ Strm w w' := by
  have hlen : l.length = n := by rw [← hl]; exact keysOf_len _ A n
  have hkg : ∀ i, i < n → kg l i = keyAt (fun k => w.heap[k]?) A i := fun i hi => by rw [← hl]; exact kg_keys _ A hi
  have hs0 : HSat (fun k => w.heap[k]?) (lk ([] : List (Nat × Atom))) ρ0 (fun _ _ => none) w := ⟨fun _ _ => rfl, fun x A hx => by simp [lk] at hx, fun x y k o hx _ => (by cases hx), fun x k o hx => (by cases hx), fun k o hk => hk⟩
  have hmain := own_calls (E := ⟨Ty, sp22, fun k => w.heap[k]?, 95, []⟩) (vs := [sval (.slice A n cap)]) (rts := []) (v := v) (hl := hl') Try.func8 rfl mixed Ty_ok sp22_ok rfl rfl hs0 (by intro u hu; simp at hu; subst hu; exact sval_ok _ _) (by intro r hr; simp [ids] at hr) ?_
  · refine hmain.mono ?_
    rintro e w' ⟨ρ', h', q1, q2, q3, q4, _⟩
    exact ⟨ρ', h', q1, q2, q3, q4⟩
  refine ⟨fun g1 => ?_, fun g1 => ?_⟩
  · obtain ⟨rfl, rfl⟩ := h1 g1
    exact ⟨fun x => x, rfl, rfl, ⟨by kernel_rfl, trivial⟩, trivial, rfl, rfl, rfl⟩
  have hn : n ≤ 64 := by simp [ilt] at g1; omega
  refine ⟨⟨hK, by omega⟩, ?_⟩
  subst hl
  refine ⟨fun g2 => ?_, fun g2 => ?_⟩
  · obtain ⟨rfl, rfl⟩ := h2 (by simpa using g1) (by unfold badL; rw [show ine (bndE (keysOf (fun k => w.heap[k]?) A n)) 0 = true from g2]; rfl)
    exact ⟨fun x => x, rfl, rfl, ⟨by kernel_rfl, trivial⟩, trivial, rfl, rfl, rfl⟩
  refine ⟨fun g3 => ?_, fun g3 => ?_⟩
  · obtain ⟨rfl, rfl⟩ := h2 (by simpa using g1) (by unfold badL; rw [hlen, show ilt n 2 = true from g3]; simp)
    exact ⟨fun x => x, rfl, rfl, ⟨by kernel_rfl, trivial⟩, trivial, rfl, rfl, rfl⟩
  have hbad : badL (keysOf (fun k => w.heap[k]?) A n) = false := by
    unfold badL
    rw [hlen, show ine (bndE (keysOf (fun k => w.heap[k]?) A n)) 0 = false from g2, show ilt n 2 = false from g3]; rfl
  obtain ⟨rfl, rfl⟩ := h3 (by simpa using g1) hbad
  have h2n : 2 ≤ n := by simp [ilt] at g3; omega
  obtain ⟨b1, b2, b3⟩ := seed_bound (l := keysOf (fun k => w.heap[k]?) A n) (by omega)
  rw [hlen] at b3
  have hKi : ∀ i : Int, 0 ≤ i → i < n → cIdx A n i ∧ cRead (fun k => w.heap[k]?) (elAt A i 4) z4 := fun i p1 p2 => by
    have := hK i.toNat (by omega)
    rw [show ((i.toNat : Nat) : Int) = i from Int.toNat_of_nonneg p1] at this
    exact ⟨⟨this.1, p1, p2⟩, this.2⟩
  have cl := hKi _ b1 (by omega)
  have cr := hKi _ (by omega) b3
  refine ⟨⟨hK, h2n, by omega⟩, ?_⟩
  refine ⟨cl.1, cl.2, cr.1, cr.2, ?_⟩
  refine ⟨by kernel_rfl, ?_⟩
  refine ⟨by unfold cNz; decide, ?_⟩
  refine ⟨{ p : Nat × Sides // p.1 ≤ n ∧ p.2.pa.length ≤ p.1 + 1 ∧ p.2.pb.length ≤ p.1 + 1 ∧ ptOut (keysOf (fun k => w.heap[k]?) A n) (n - p.1) p.1 p.2 = partM (keysOf (fun k => w.heap[k]?) A n) }, fun p => partSt A n cap (keysOf (fun k => w.heap[k]?) A n) p.1, fun p => n - p.1.1, ⟨(0, ⟨[seedL (keysOf (fun k => w.heap[k]?) A n)], keyAtI (fun k => w.heap[k]?) A (seedL (keysOf (fun k => w.heap[k]?) A n)), [seedR (keysOf (fun k => w.heap[k]?) A n)], keyAtI (fun k => w.heap[k]?) A (seedR (keysOf (fun k => w.heap[k]?) A n)), isub .i64 n 2⟩), by simp, by simp, by simp, ?_⟩, ?_, ?_⟩
  · unfold partM pt0
    rw [hlen, hkg _ (by omega), hkg _ (by omega), keyAtI_eq _ _ b1, keyAtI_eq _ _ (by omega)]
    rfl
  · exact ⟨fun k => match Nat.beq k 201 with | true => 37 | false => match Nat.beq k 202 with | true => 45 | false => k, by kernel_rfl, by kernel_rfl, ⟨by kernel_rfl, by kernel_rfl, by kernel_rfl, by kernel_rfl, by kernel_rfl, by kernel_rfl, by kernel_rfl, by kernel_rfl, by kernel_rfl, by kernel_rfl, by kernel_rfl, trivial⟩, ⟨by kernel_rfl, by kernel_rfl, by kernel_rfl, by kernel_rfl, by kernel_rfl, by kernel_rfl, by kernel_rfl, by kernel_rfl, trivial⟩, by kernel_rfl, by kernel_rfl, by kernel_rfl⟩
  · rintro ⟨⟨i, s⟩, hi, hla, hlb, hs⟩
    simp only at hi hla hlb hs
    refine ⟨fun g4 => ?_, fun g4 => ?_⟩
    · have hlt : i < n := by simp [ilt] at g4; omega
      have e1 := step63 hlt (by omega)
      have hf : n - i = (n - (i + 1)) + 1 := by omega
      rw [hf] at hs
      simp only [ptOut] at hs
      have key := hkg i hlt
      refine ⟨⟨(hK i hlt).1, Int.natCast_nonneg _, Int.ofNat_lt.2 hlt⟩, ?_⟩
      refine ⟨(hK i hlt).2, ?_⟩
      refine ⟨fun g5 => ?_, fun g5 => ?_⟩
      · have hst : ptStep (keysOf (fun k => w.heap[k]?) A n) i s = s := by
          unfold ptStep
          rw [show ieq i (seedL (keysOf (fun k => w.heap[k]?) A n)) = true from g5]; rfl
        rw [hst] at hs
        refine ⟨⟨(i + 1, s), by simp; omega, by simp; omega, by simp; omega, hs⟩, ⟨fun k => k, by kernel_rfl, by kernel_rfl, ⟨by kernel_rfl, by kernel_rfl, by kernel_rfl, by kernel_rfl, by kernel_rfl, by kernel_rfl, by kernel_rfl, by kernel_rfl, by kernel_rfl, by kernel_rfl, ?_, trivial⟩, ⟨by kernel_rfl, by kernel_rfl, by kernel_rfl, by kernel_rfl, by kernel_rfl, by kernel_rfl, by kernel_rfl, by kernel_rfl, trivial⟩, by kernel_rfl, by kernel_rfl, by kernel_rfl⟩, by simp; omega⟩
        simp [lk_cons, SV.ren, SE.ren, SC.ren, sval, e1]
      refine ⟨fun g6 => ?_, fun g6 => ?_⟩
      · have hst : ptStep (keysOf (fun k => w.heap[k]?) A n) i s = s := by
          unfold ptStep
          rw [show ieq i (seedR (keysOf (fun k => w.heap[k]?) A n)) = true from g6]; simp
        rw [hst] at hs
        refine ⟨⟨(i + 1, s), by simp; omega, by simp; omega, by simp; omega, hs⟩, ⟨fun k => k, by kernel_rfl, by kernel_rfl, ⟨by kernel_rfl, by kernel_rfl, by kernel_rfl, by kernel_rfl, by kernel_rfl, by kernel_rfl, by kernel_rfl, by kernel_rfl, by kernel_rfl, by kernel_rfl, ?_, trivial⟩, ⟨by kernel_rfl, by kernel_rfl, by kernel_rfl, by kernel_rfl, by kernel_rfl, by kernel_rfl, by kernel_rfl, by kernel_rfl, trivial⟩, by kernel_rfl, by kernel_rfl, by kernel_rfl⟩, by simp; omega⟩
        simp [lk_cons, SV.ren, SE.ren, SC.ren, sval, e1]
      have hno : (ieq i (seedL (keysOf (fun k => w.heap[k]?) A n)) || ieq i (seedR (keysOf (fun k => w.heap[k]?) A n))) = false := by
        rw [show ieq i (seedL (keysOf (fun k => w.heap[k]?) A n)) = false from g5, show ieq i (seedR (keysOf (fun k => w.heap[k]?) A n)) = false from g6]; rfl
      refine ⟨fun g7 => ?_, fun g7 => ?_⟩
      · have g7' : chA s.pa.length s.pb.length s.lf (leastM n) s.ka s.kb (keyAt (fun k => w.heap[k]?) A i) = true := g7
        have hst : ptStep (keysOf (fun k => w.heap[k]?) A n) i s = ⟨s.pa ++ [(i : Int)], uni s.ka (keyAt (fun k => w.heap[k]?) A i), s.pb, s.kb, isub .i64 s.lf 1⟩ := by
          unfold ptStep
          rw [hno, hlen, key, g7']; rfl
        rw [hst] at hs
        refine ⟨⟨rfl, by show (s.pa.length + 1) * 8 ≤ 140737488355328; omega⟩, ?_⟩
        refine ⟨by kernel_rfl, ?_⟩
        refine ⟨⟨(i + 1, ⟨s.pa ++ [(i : Int)], uni s.ka (keyAt (fun k => w.heap[k]?) A i), s.pb, s.kb, isub .i64 s.lf 1⟩), by simp; omega, by simp; omega, by simp; omega, hs⟩, ⟨fun k => match Nat.beq k 201 with | true => 81 | false => k, by kernel_rfl, by kernel_rfl, ⟨by kernel_rfl, by kernel_rfl, by kernel_rfl, by kernel_rfl, by kernel_rfl, by kernel_rfl, by kernel_rfl, by kernel_rfl, by kernel_rfl, by kernel_rfl, ?_, trivial⟩, ⟨by kernel_rfl, by kernel_rfl, by kernel_rfl, by kernel_rfl, ?_, by kernel_rfl, ?_, by kernel_rfl, trivial⟩, by kernel_rfl, by kernel_rfl, by kernel_rfl⟩, by simp; omega⟩
        · simp [lk_cons, SV.ren, SE.ren, SC.ren, sval, e1]
        · simp [lk_cons, Atom.ren, SC.ren, sideA, partSt, SS.clr]
          exact ⟨rfl, rfl, rfl, rfl⟩
        · simp [lk_cons, Atom.ren, SC.ren, partSt, SS.clr]
      · have g7' : chA s.pa.length s.pb.length s.lf (leastM n) s.ka s.kb (keyAt (fun k => w.heap[k]?) A i) = false := g7
        have hst : ptStep (keysOf (fun k => w.heap[k]?) A n) i s = ⟨s.pa, s.ka, s.pb ++ [(i : Int)], uni s.kb (keyAt (fun k => w.heap[k]?) A i), isub .i64 s.lf 1⟩ := by
          unfold ptStep
          rw [hno, hlen, key, g7']; rfl
        rw [hst] at hs
        refine ⟨⟨rfl, by show (s.pb.length + 1) * 8 ≤ 140737488355328; omega⟩, ?_⟩
        refine ⟨by kernel_rfl, ?_⟩
        refine ⟨⟨(i + 1, ⟨s.pa, s.ka, s.pb ++ [(i : Int)], uni s.kb (keyAt (fun k => w.heap[k]?) A i), isub .i64 s.lf 1⟩), by simp; omega, by simp; omega, by simp; omega, hs⟩, ⟨fun k => match Nat.beq k 202 with | true => 81 | false => k, by kernel_rfl, by kernel_rfl, ⟨by kernel_rfl, by kernel_rfl, by kernel_rfl, by kernel_rfl, by kernel_rfl, by kernel_rfl, by kernel_rfl, by kernel_rfl, by kernel_rfl, by kernel_rfl, ?_, trivial⟩, ⟨by kernel_rfl, by kernel_rfl, by kernel_rfl, by kernel_rfl, by kernel_rfl, ?_, by kernel_rfl, ?_, trivial⟩, by kernel_rfl, by kernel_rfl, by kernel_rfl⟩, by simp; omega⟩
        · simp [lk_cons, SV.ren, SE.ren, SC.ren, sval, e1]
        · simp [lk_cons, Atom.ren, SC.ren, sideA, partSt, SS.clr]
          exact ⟨rfl, rfl, rfl, rfl⟩
        · simp [lk_cons, Atom.ren, SC.ren, partSt, SS.clr]
    · have hin : i = n := by simp [ilt] at g4; omega
      subst hin
      simp only [Nat.sub_self, ptOut] at hs
      refine ⟨⟨rfl, by rw [unIs_vi], by show s.pa.length ≤ _; omega⟩, ?_⟩
      refine ⟨⟨rfl, by rw [unIs_vi], by show s.pb.length ≤ _; omega⟩, ?_⟩
      refine ⟨by kernel_rfl, ?_⟩
      refine ⟨fun k => match Nat.beq k 2001 with | true => 201 | false => match Nat.beq k 2002 with | true => 202 | false => k, by kernel_rfl, by kernel_rfl, ⟨?_, trivial⟩, ⟨?_, ?_, trivial⟩, by kernel_rfl, by kernel_rfl, by kernel_rfl⟩
      · simp [lk_cons, partT, SV.ren, SE.ren, SC.ren, resV, ← hs, iE]
      · simp [lk_cons, Atom.ren, SC.ren, unIs_vi, ← hs]
      · simp [lk_cons, Atom.ren, SC.ren, unIs_vi, ← hs]
end Go.Proofs.Ytemoagpahhdoeaa
