/- What became of a transaction: the document's search, the program's. No condition. -/
import Derived.Test.YtpjceimjhbmjnaaV4
namespace Go.Proofs.Ytpjceimjhbmjnaa
open Go.Sy
set_option linter.unusedSimpArgs false
set_option linter.unusedVariables false
set_option maxRecDepth 100000

theorem drop_at {l : List (Int × Int)} {i : Nat} (h : i < l.length) : l.drop i = (fid l i, fnm l i) :: l.drop (i + 1) := by
  rw [List.drop_eq_getElem_cons h]
  simp only [fid, fnm, List.getD_eq_getElem?_getD, List.getElem?_eq_getElem h, Option.getD_some]
theorem lk_step {l : List (Int × Int)} {i : Nat} {x : Int} (h : i < l.length) : lkF (l.drop i) x = if fid l i = x then some (fnm l i) else lkF (l.drop (i + 1)) x := by
  rw [drop_at h]; rfl
theorem lk_end {l : List (Int × Int)} {x : Int} : lkF (l.drop l.length) x = none := by simp [lkF]

@[irreducible] def rfK (first : Int) (l : List (Int × Int)) (x : Int) : Int := if ieq x 0 then 0 else if ilt x first then 1 else match lkF l x with | none => 3 | some n => if ieq n 0 then 2 else 1
@[irreducible] def rfN (first : Int) (l : List (Int × Int)) (x : Int) : Int := if ieq x 0 then 0 else if ilt x first then 0 else (lkF l x).getD 0
def rfSt (first : Int) (A : Option Addr) (n c : Nat) (x : Int) (i : Nat) : SS :=
  ⟨[(1, sval (vu x)), (2, .e (.c (.ptr 2 0))), (6, sval (vi i))], [(2, .blk 25 [.val (vu first), .val (.slice A n c)])], []⟩
def rfG : PureG := fun F vs => match vs with
  | [.e (.agg [.val (.int .u64 first), .val (.slice A n _)]), .e (.c (.val (.int .u64 x)))] => some (.p (n ≤ 500 ∧ FatesF F A n), .tup [.c (.val (vi (rfK first (fatesOf F A n) x))), .c (.val (vu (rfN first (fatesOf F A n) x)))])
  | _ => none
theorem rf_ok : SpecOK Try.prog 22 (pureS rfG) := by
  refine pure_ok ⟨_, _, Try.func22, rfl, by kernel_rfl⟩ ?_
  intro F vs c v hp hc
  unfold rfG at hp
  split at hp
  · rename_i first A n cap x
    cases hp
    refine ⟨rfl, rfl, fun w hF => ?_⟩
    obtain ⟨hn5, hc⟩ := hc
    obtain ⟨hK, heq⟩ := fates_mono hF hc
    rw [← heq]
    obtain ⟨l, hl⟩ : ∃ l, fatesOf (fun k => w.heap[k]?) A n = l := ⟨_, rfl⟩
    have hlen : l.length = n := by rw [← hl]; exact fatesOf_len _ A n
    have hat : ∀ i, i < n → AtF (fun k => w.heap[k]?) A n i l := fun i hi => by rw [← hl]; exact at_fates hK hi
    rw [hl]
    refine pure_calls (E := ⟨Ty, (fun _ => none), fun k => w.heap[k]?, 51, []⟩) Try.func22 rfl mixed Ty_ok (specs_nil _) rfl (by kernel_rfl) rfl rfl rfl ?_
    refine ⟨fun h1 => ?_, fun h1 => ?_⟩
    · exact ⟨rfl, by simp [rfK, h1], rfl, by simp [rfN, h1], trivial⟩
    refine ⟨fun h2 => ?_, fun h2 => ?_⟩
    · exact ⟨rfl, by simp [rfK, h1, h2], rfl, by simp [rfN, h1, h2], trivial⟩
    refine ⟨{ i : Nat // i ≤ n ∧ lkF (l.drop i) x = lkF l x }, fun i => rfSt first A n cap x i.1, fun i => n - i.1, ⟨0, by omega, rfl⟩, ?_, ?_⟩
    · exact ⟨fun x => x, rfl, rfl, ⟨by kernel_rfl, by kernel_rfl, by kernel_rfl, trivial⟩, ⟨by kernel_rfl, trivial⟩, rfl, rfl, rfl⟩
    · rintro ⟨i, hi, hok⟩
      refine ⟨fun h3 => ?_, fun h3 => ?_⟩
      · have hlt : i < n := by simp [ilt, vi] at h3; omega
        have at_ := hat i hlt
        have e1 := step63 hlt (by omega)
        rw [lk_step (by omega)] at hok
        refine ⟨at_.ix, ?_⟩
        refine ⟨at_.r0, ?_⟩
        refine ⟨fun h4 => ?_, fun h4 => ?_⟩
        · have h4' : fid l i = x := by
            have : ieq (Hp.int (fun k => w.heap[k]?) (((elAt A ((i : Nat) : Int) 2).add 0).add 0)) x = true := h4
            rw [at_.w0] at this
            simpa [ieq] using this
          rw [if_pos h4'] at hok
          refine ⟨at_.ix, ?_⟩
          refine ⟨at_.r1, ?_⟩
          refine ⟨fun h5 => ?_, fun h5 => ?_⟩
          · have h5' : ieq (fnm l i) 0 = true := by rw [← at_.w1]; exact h5
            have h6 : fnm l i = 0 := by simpa [ieq] using h5'
            exact ⟨rfl, by simp [rfK, h1, h2, ← hok, h5'], rfl, by simp [rfN, h1, h2, ← hok, h6], trivial⟩
          · have h5' : ieq (fnm l i) 0 = false := by rw [← at_.w1]; exact h5
            refine ⟨at_.ix, ?_⟩
            refine ⟨at_.r0, ?_⟩
            refine ⟨fun h6 => ?_, fun h6 => ?_⟩
            · refine ⟨at_.ix, ?_⟩
              refine ⟨at_.r1, ?_⟩
              exact ⟨by kernel_rfl, rfl, by simp [rfK, h1, h2, ← hok, h5'], rfl, by simp [rfN, h1, h2, ← hok]; exact at_.w1, trivial⟩
            · have : ieq (Hp.int (fun k => w.heap[k]?) (((elAt A ((i : Nat) : Int) 2).add 0).add 0)) x = false := h6
              rw [at_.w0] at this
              simp [ieq, h4'] at this
        · have h4' : fid l i ≠ x := by
            have : ieq (Hp.int (fun k => w.heap[k]?) (((elAt A ((i : Nat) : Int) 2).add 0).add 0)) x = false := h4
            rw [at_.w0] at this
            simpa [ieq] using this
          rw [if_neg h4'] at hok
          refine ⟨at_.ix, ?_⟩
          refine ⟨at_.r0, ?_⟩
          refine ⟨fun h6 => ?_, fun h6 => ?_⟩
          · have : ieq (Hp.int (fun k => w.heap[k]?) (((elAt A ((i : Nat) : Int) 2).add 0).add 0)) x = true := h6
            rw [at_.w0] at this
            exact (h4' (by simpa [ieq] using this)).elim
          · refine ⟨⟨i + 1, by omega, hok⟩, ⟨fun x => x, rfl, rfl, ⟨by kernel_rfl, by kernel_rfl, ?_, trivial⟩, ⟨by kernel_rfl, trivial⟩, rfl, rfl, rfl⟩, by simp; omega⟩
            exact congrArg (fun q => some (sval (vi q))) e1
      · have hin : i = n := by simp [ilt, vi] at h3; omega
        rw [hin, ← hlen, lk_end] at hok
        exact ⟨rfl, by simp [rfK, h1, h2, ← hok], rfl, by simp [rfN, h1, h2, ← hok], trivial⟩
  · cases hp

/-! ### The program's search, by halves -/
def SortF (l : List (Int × Int)) : Prop := ∀ a b, a < b → b < l.length → fid l a < fid l b
@[irreducible] def bsI (l : List (Int × Int)) (x : Int) : Nat := (l.takeWhile fun p => decide (p.1 < x)).length
@[irreducible] def bsF (l : List (Int × Int)) (x : Int) : Bool := ilt (bsI l x : Nat) (l.length : Nat) && ieq (cmpU (fid l (bsI l x)) x) 0
theorem bs_at {x : Int} : ∀ {l : List (Int × Int)} {i : Nat}, i ≤ l.length → (∀ k, k < i → fid l k < x) → (∀ k, i ≤ k → k < l.length → x ≤ fid l k) → bsI l x = i
  | [], i, h1, _, _ => by have : i = 0 := by simpa using h1
                          subst this; simp [bsI]
  | p :: l, 0, h1, h2, h3 => by
    have := h3 0 (by omega) (by simp)
    simp [fid] at this
    simp [bsI, show ¬ p.1 < x by omega]
  | p :: l, i + 1, h1, h2, h3 => by
    have hp : p.1 < x := by simpa [fid] using h2 0 (by omega)
    have ih := bs_at (l := l) (i := i) (x := x) (by simpa using h1) (fun k hk => by simpa [fid] using h2 (k + 1) (by omega)) (fun k hk hl => by simpa [fid] using h3 (k + 1) (by omega) (by simpa using hl))
    unfold bsI at ih ⊢
    simp [hp, ih]
theorem cmpU_neg {a b : Int} : ilt (cmpU a b) 0 = true ↔ a < b := by
  unfold cmpU
  simp only [ilt, decide_eq_true_eq]
  split
  · rename_i h; simpa using h
  · rename_i h
    split <;> simp <;> omega
theorem cmpU_zero {a b : Int} : ieq (cmpU a b) 0 = true ↔ a = b := by
  unfold cmpU
  simp only [ilt, ieq, decide_eq_true_eq, beq_iff_eq]
  split
  · rename_i h; simp; omega
  · split <;> simp <;> omega
theorem half63 {i j : Nat} (hi : i ≤ 1000) (hj : j ≤ 1000) : iconv .i64 (ishr .u64 (iconv .u64 (iadd .i64 (i : Int) (j : Int))) 1) = (((i + j) / 2 : Nat) : Int) := by
  have e1 : iadd .i64 (i : Int) (j : Int) = ((i + j : Nat) : Int) := by
    unfold iadd IntKind.wrap
    simp [IntKind.bits, IntKind.signed]
    omega
  have e2 : iconv .u64 ((i + j : Nat) : Int) = ((i + j : Nat) : Int) := by
    unfold iconv IntKind.wrap
    simp [IntKind.bits, IntKind.signed]
    omega
  have e3 : ishr .u64 ((i + j : Nat) : Int) 1 = (((i + j) / 2 : Nat) : Int) := by
    unfold ishr
    simp [IntKind.bits]
    rw [Int.fdiv_eq_ediv_of_nonneg _ (by omega)]
  rw [e1, e2, e3]
  unfold iconv IntKind.wrap
  simp [IntKind.bits, IntKind.signed]
  omega

abbrev cmpV : Value := .func (.func 27) #[] #[]
def bsSt (A : Option Addr) (n c : Nat) (x : Int) (i j : Nat) : SS :=
  ⟨[(0, sval (.slice A n c)), (1, sval (vu x)), (2, sval cmpV), (8, sval (vi n)), (9, sval (vi i)), (10, sval (vi j))], [], []⟩
def bsG : PureG := fun F vs => match vs with
  | [.e (.c (.val (.slice A n _))), .e (.c (.val (.int .u64 x))), .e (.c (.val (.func (.func 27) a b)))] => match a.toList, b.toList with
    | [], [] => some (.p (n ≤ 500 ∧ FatesF F A n ∧ SortF (fatesOf F A n)), .tup [.c (.val (vi (bsI (fatesOf F A n) x))), .c (.val (.bool (bsF (fatesOf F A n) x)))])
    | _, _ => none
  | _ => none
theorem bs_ok : SpecOK Try.prog 26 (pureS bsG) := by
  refine pure_ok ⟨_, _, Try.func26, rfl, by kernel_rfl⟩ ?_
  intro F vs c v hp hc
  unfold bsG at hp
  split at hp
  · rename_i A n cap x a b
    split at hp
    · rename_i ha hb
      have ha' : a = #[] := by apply Array.toList_inj.1; simpa using ha
      have hb' : b = #[] := by apply Array.toList_inj.1; simpa using hb
      subst ha' hb'
      cases hp
      refine ⟨rfl, rfl, fun w hF => ?_⟩
      obtain ⟨hn5, hc, hs⟩ := hc
      obtain ⟨hK, heq⟩ := fates_mono hF hc
      rw [← heq] at hs ⊢
      obtain ⟨l, hl⟩ : ∃ l, fatesOf (fun k => w.heap[k]?) A n = l := ⟨_, rfl⟩
      have hlen : l.length = n := by rw [← hl]; exact fatesOf_len _ A n
      have hat : ∀ i, i < n → AtF (fun k => w.heap[k]?) A n i l := fun i hi => by rw [← hl]; exact at_fates hK hi
      rw [hl] at hs ⊢
      refine pure_calls (E := ⟨Ty, sp8, fun k => w.heap[k]?, 49, []⟩) Try.func26 rfl mixed Ty_ok sp8_ok rfl (by kernel_rfl) rfl rfl rfl ?_
      refine ⟨{ p : Nat × Nat // p.1 ≤ p.2 ∧ p.2 ≤ n ∧ (∀ k, k < p.1 → fid l k < x) ∧ ∀ k, p.2 ≤ k → k < n → x ≤ fid l k }, fun p => bsSt A n cap x p.1.1 p.1.2, fun p => p.1.2 - p.1.1, ⟨(0, n), by simp, by simp, fun k hk => by simp at hk, fun k hk hk' => by simp at hk; omega⟩, ?_, ?_⟩
      · exact ⟨fun x => x, rfl, rfl, ⟨by kernel_rfl, by kernel_rfl, by kernel_rfl, by kernel_rfl, by kernel_rfl, by kernel_rfl, trivial⟩, trivial, rfl, rfl, rfl⟩
      · rintro ⟨⟨i, j⟩, hij, hj, hlo, hhi⟩
        simp only at hij hj hlo hhi
        refine ⟨fun h3 => ?_, fun h3 => ?_⟩
        · have hlt : i < j := by simp [ilt, vi] at h3; omega
          have e0 := half63 (i := i) (j := j) (by omega) (by omega)
          have hm : (i + j) / 2 < n := by omega
          have at_ := hat _ hm
          refine ⟨by unfold cPos; decide, ?_⟩
          obtain ⟨MI, hMI⟩ : ∃ MI, iconv .i64 (ishr .u64 (iconv .u64 (iadd .i64 (i : Int) (j : Int))) 1) = MI := ⟨_, rfl⟩
          have hMv : MI = (((i + j) / 2 : Nat) : Int) := by rw [← hMI, e0]
          refine ⟨(by rw [e0]; exact at_.ix : cIdx A n (iconv .i64 (ishr .u64 (iconv .u64 (iadd .i64 (i : Int) (j : Int))) 1))), ?_⟩
          refine ⟨(by rw [e0]; exact at_.rd : cRead (fun k => w.heap[k]?) (elAt A (iconv .i64 (ishr .u64 (iconv .u64 (iadd .i64 (i : Int) (j : Int))) 1)) 2) z2), ?_⟩
          refine ⟨fun h4 => ?_, fun h4 => ?_⟩
          · have h4' : fid l ((i + j) / 2) < x := by
              have : ilt (cmpU (Hp.int (fun k => w.heap[k]?) ((elAt A (iconv .i64 (ishr .u64 (iconv .u64 (iadd .i64 (i : Int) (j : Int))) 1)) 2).add 0)) x) 0 = true := h4
              rw [e0, at_.v0] at this
              exact cmpU_neg.1 this
            have e1 := step63 hm (by omega)
            refine ⟨⟨((i + j) / 2 + 1, j), by simp; omega, by simp; omega, fun k hk => ?_, hhi⟩, ⟨fun x => x, rfl, rfl, ⟨by kernel_rfl, by kernel_rfl, by kernel_rfl, by kernel_rfl, ?_, by kernel_rfl, trivial⟩, trivial, rfl, rfl, rfl⟩, by simp; omega⟩
            · simp at hk
              by_cases e : k = (i + j) / 2
              · rw [e]; exact h4'
              · have := hs k ((i + j) / 2) (by omega) (by omega)
                omega
            · exact congrArg (fun q => some (sval (vi q))) ((congrArg (fun q => iadd .i64 q 1) e0).trans e1)
          · have h4' : x ≤ fid l ((i + j) / 2) := by
              have : ilt (cmpU (Hp.int (fun k => w.heap[k]?) ((elAt A (iconv .i64 (ishr .u64 (iconv .u64 (iadd .i64 (i : Int) (j : Int))) 1)) 2).add 0)) x) 0 = false := h4
              rw [e0, at_.v0] at this
              have q : ¬ (fid l ((i + j) / 2) < x) := fun hh => by rw [cmpU_neg.2 hh] at this; cases this
              omega
            refine ⟨⟨(i, (i + j) / 2), by simp; omega, by simp; omega, hlo, fun k hk hk' => ?_⟩, ⟨fun x => x, rfl, rfl, ⟨by kernel_rfl, by kernel_rfl, by kernel_rfl, by kernel_rfl, by kernel_rfl, ?_, trivial⟩, trivial, rfl, rfl, rfl⟩, by simp; omega⟩
            · simp at hk
              by_cases e : k = (i + j) / 2
              · rw [e]; exact h4'
              · have := hs ((i + j) / 2) k (by omega) (by omega)
                omega
            · exact congrArg (fun q => some (sval (vi q))) e0
        · have hin : i = j := by simp [ilt, vi] at h3; omega
          subst hin
          have hb := bs_at (l := l) (i := i) (x := x) (by omega) hlo (fun k hk hk' => hhi k hk (by omega))
          refine ⟨fun h5 => ?_, fun h5 => ?_⟩
          · have hlt : i < n := by simp [ilt, vi] at h5; omega
            have at_ := hat i hlt
            have h5' : ilt (i : Nat) (l.length : Nat) = true := by rw [hlen]; exact h5
            refine ⟨at_.ix, ?_⟩
            refine ⟨at_.rd, ?_⟩
            exact ⟨rfl, by rw [hb], by simp only [bsF, hb, h5', Bool.true_and, ← at_.v0], trivial⟩
          · have h5' : ilt (i : Nat) (l.length : Nat) = false := by rw [hlen]; exact h5
            exact ⟨rfl, by rw [hb], by simp only [bsF, hb, h5', Bool.false_and], trivial⟩
    · cases hp
  · cases hp
end Go.Proofs.Ytpjceimjhbmjnaa
