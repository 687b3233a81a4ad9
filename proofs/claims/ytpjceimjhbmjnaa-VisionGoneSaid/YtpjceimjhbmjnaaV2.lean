/- Lists of fates that are read: numbers in memory, told as a list of pairs. No condition. -/
import Derived.Test.YtpjceimjhbmjnaaV1
namespace Go.Proofs.Ytpjceimjhbmjnaa
open Go.Sy
set_option linter.unusedSimpArgs false
set_option linter.unusedVariables false
set_option maxRecDepth 100000

abbrev z2 : List Value := [.int .u64 0, .int .u64 0]
abbrev z1 : List Value := [.int .u64 0]
def fateAt (F : Hp) (A : Option Addr) (i : Nat) : Int × Int := (F.int ((elAt A i 2).add 0), F.int ((elAt A i 2).add 1))
def wfF (p : Int × Int) : Prop := 0 ≤ p.1 ∧ p.1 < 18446744073709551616 ∧ 0 ≤ p.2 ∧ p.2 < 18446744073709551616
def FatesF (F : Hp) (A : Option Addr) (n : Nat) : Prop := ∀ i : Nat, i < n → A.isSome = true ∧ cRead F (elAt A i 2) z2 ∧ wfF (fateAt F A i)
def fatesOf (F : Hp) (A : Option Addr) (n : Nat) : List (Int × Int) := (List.range n).map (fateAt F A)
def fid (l : List (Int × Int)) (i : Nat) : Int := (l.getD i (0, 0)).1
def fnm (l : List (Int × Int)) (i : Nat) : Int := (l.getD i (0, 0)).2
def WfL (l : List (Int × Int)) : Prop := ∀ i, wfF (l.getD i (0, 0))

theorem fatesOf_len (F : Hp) (A : Option Addr) (n : Nat) : (fatesOf F A n).length = n := by simp [fatesOf]
theorem fatesOf_get (F : Hp) (A : Option Addr) {n i : Nat} (hi : i < n) : (fatesOf F A n).getD i (0, 0) = fateAt F A i := by simp [fatesOf, hi]
theorem cell_mono {F G : Hp} (h : ∀ k o, F k = some o → G k = some o) {a : Addr} {v : Value} (hv : F.cell a = some v) : G.cell a = some v := by
  unfold Hp.cell at hv ⊢
  split at hv
  · rename_i c t f hF
    rw [h _ _ hF]
    exact hv
  · cases hv
theorem cRead_cell {F : Hp} {B : Addr} (hc : cRead F B z2) : ∀ j, j < 2 → F.cell (B.add j) = some (.int .u64 (F.int (B.add j))) := by
  intro j hj
  have hj' : j = 0 ∨ j = 1 := by omega
  obtain ⟨v, hv, hF⟩ := hc j (.val (.int .u64 (F.int (B.add j)))) (by rcases hj' with rfl | rfl <;> rfl)
  cases hv; exact hF
theorem cRead_of {F : Hp} {B : Addr} (h : ∀ j, j < 2 → F.cell (B.add j) = some (.int .u64 (F.int (B.add j)))) : cRead F B z2 := by
  intro j c hj
  have hlt : j < 2 := by
    have := (List.getElem?_eq_some_iff.1 hj).1
    simpa [rdT] using this
  have hj' : j = 0 ∨ j = 1 := by omega
  rcases hj' with rfl | rfl <;> (simp [rdT] at hj; subst hj; exact ⟨_, rfl, h _ hlt⟩)
theorem add0 (A : Addr) : A.add 0 = A := by simp [Addr.add]
theorem cRead_one {F : Hp} {B : Addr} (hc : cRead F B z2) {j : Nat} (hj : j < 2) : cRead F (B.add j) z1 := by
  intro q c hq
  have hlt : q < 1 := by
    have := (List.getElem?_eq_some_iff.1 hq).1
    simpa [rdT] using this
  have hq' : q = 0 := by omega
  subst hq'
  simp [rdT] at hq
  subst hq
  exact ⟨_, rfl, by rw [add0]; exact cRead_cell hc j hj⟩
theorem int_mono {F G : Hp} (h : ∀ k o, F k = some o → G k = some o) {B : Addr} (hc : cRead F B z2) : cRead G B z2 ∧ ∀ j, j < 2 → G.int (B.add j) = F.int (B.add j) := by
  have e' : ∀ j, j < 2 → G.int (B.add j) = F.int (B.add j) := fun j hj => by
    have := cell_mono h (cRead_cell hc j hj)
    unfold Hp.int
    rw [this, cRead_cell hc j hj]
  exact ⟨cRead_of (fun j hj => by rw [cell_mono h (cRead_cell hc j hj), e' j hj]), e'⟩
theorem fates_mono {F G : Hp} (h : ∀ k o, F k = some o → G k = some o) {A : Option Addr} {n : Nat} (hk : FatesF F A n) : FatesF G A n ∧ fatesOf G A n = fatesOf F A n := by
  have e : ∀ i, i < n → fateAt G A i = fateAt F A i := fun i hi => by
    obtain ⟨_, e⟩ := int_mono h (hk i hi).2.1
    unfold fateAt
    rw [e 0 (by omega), e 1 (by omega)]
  refine ⟨fun i hi => ⟨(hk i hi).1, (int_mono h (hk i hi).2.1).1, by rw [e i hi]; exact (hk i hi).2.2⟩, ?_⟩
  unfold fatesOf
  exact List.map_congr_left (fun i hi => e i (List.mem_range.1 hi))
theorem fates_wf {F : Hp} {A : Option Addr} {n : Nat} (hk : FatesF F A n) : WfL (fatesOf F A n) := by
  intro i
  by_cases hi : i < n
  · rw [fatesOf_get F A hi]; exact (hk i hi).2.2
  · rw [List.getD_eq_getElem?_getD, List.getElem?_eq_none (by rw [fatesOf_len]; omega)]
    simp [wfF]

/-- What a loop over a list that is lent needs at a place. -/
structure AtF (F : Hp) (A : Option Addr) (n i : Nat) (l : List (Int × Int)) : Prop where
  ix : cIdx A n i
  rd : cRead F (elAt A i 2) z2
  r0 : cRead F ((elAt A i 2).add 0) z1
  r1 : cRead F ((elAt A i 2).add 1) z1
  v0 : F.int ((elAt A i 2).add 0) = fid l i
  v1 : F.int ((elAt A i 2).add 1) = fnm l i
  w0 : F.int (((elAt A i 2).add 0).add 0) = fid l i
  w1 : F.int (((elAt A i 2).add 1).add 0) = fnm l i
theorem at_fates {F : Hp} {A : Option Addr} {n i : Nat} (hk : FatesF F A n) (hi : i < n) : AtF F A n i (fatesOf F A n) := by
  have h := hk i hi
  have e := fatesOf_get F A hi
  refine ⟨⟨h.1, Int.natCast_nonneg _, Int.ofNat_lt.2 hi⟩, h.2.1, cRead_one h.2.1 (by omega), cRead_one h.2.1 (by omega), ?_, ?_, ?_, ?_⟩
  · unfold fid; rw [e]; rfl
  · unfold fnm; rw [e]; rfl
  · unfold fid; rw [e, add0]; rfl
  · unfold fnm; rw [e, add0]; rfl

/-! ### Fates, in plain words -/
def okAtB (first : Int) (l : List (Int × Int)) (i : Nat) : Bool :=
  decide (first ≤ fid l i) && (i == 0 || decide (fid l (i - 1) < fid l i)) && (fnm l i == 0 || !(List.range i).any fun k => fnm l k == fnm l i)
@[irreducible] def okF (first : Int) (l : List (Int × Int)) : Bool := decide (1 ≤ first) && decide (l.length ≤ 256) && (List.range l.length).all (okAtB first l)
theorem okF_iff {first : Int} {l : List (Int × Int)} : okF first l = true ↔ 1 ≤ first ∧ l.length ≤ 256 ∧ ∀ i, i < l.length → okAtB first l i = true := by
  simp [okF, and_assoc]
theorem okF_no {first : Int} {l : List (Int × Int)} {i : Nat} (hi : i < l.length) (h : okAtB first l i = false) : okF first l = false := by
  cases hq : okF first l with
  | false => rfl
  | true => rw [(okF_iff.1 hq).2.2 i hi] at h; cases h

/-- What becomes of a transaction: its number, if it is in the list. -/
def lkF : List (Int × Int) → Int → Option Int
  | [], _ => none
  | p :: r, x => if p.1 = x then some p.2 else lkF r x
@[irreducible] def fateN (first : Int) (l : List (Int × Int)) (x : Int) : Int := if ilt 0 x && ilt x first then 0 else (lkF l x).getD 0
@[irreducible] def fateD (first : Int) (l : List (Int × Int)) (x : Int) : Bool := if ilt 0 x && ilt x first then true else match lkF l x with | some n => ilt 0 n | none => false
@[irreducible] def fateO (first : Int) (l : List (Int × Int)) (x : Int) : Bool := if ilt 0 x && ilt x first then false else match lkF l x with | some n => ieq n 0 | none => false

theorem step63 {i n : Nat} (h : i < n) (hn : n ≤ 1048576) : iadd .i64 (i : Int) 1 = ((i + 1 : Nat) : Int) := by
  unfold iadd IntKind.wrap
  simp [IntKind.bits, IntKind.signed]
  omega
theorem sub63 {k : Nat} (h : k ≤ 1048576) : isub .i64 ((k + 1 : Nat) : Int) 1 = (k : Int) := by
  unfold isub IntKind.wrap
  simp [IntKind.bits, IntKind.signed]
  omega
end Go.Proofs.Ytpjceimjhbmjnaa
