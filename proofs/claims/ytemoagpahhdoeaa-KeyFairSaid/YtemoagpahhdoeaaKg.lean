/- A list that is parted: each place is told once, and each side has its least. No condition. -/
import Derived.Test.YtemoagpahhdoeaaKf
namespace Go.Proofs.Ytemoagpahhdoeaa
open Go.Sy
set_option linter.unusedSimpArgs false
set_option linter.unusedVariables false

theorem least_ok : ∀ n : Nat, n < 65 → 2 ≤ n → 1 ≤ leastM n ∧ 2 * leastM n ≤ n := by decide +kernel
def remM (n i I J : Int) : Int := n - i - (if i ≤ I then 1 else 0) - (if i ≤ J then 1 else 0)

structure Inv (n : Nat) (I J : Int) (i : Nat) (s : Sides) : Prop where
  ba : ∀ x ∈ s.pa, 0 ≤ x ∧ x < n ∧ (x = I ∨ (x < i ∧ x ≠ I ∧ x ≠ J))
  bb : ∀ x ∈ s.pb, 0 ≤ x ∧ x < n ∧ (x = J ∨ (x < i ∧ x ≠ I ∧ x ≠ J))
  da : Dif s.pa
  db : Dif s.pb
  dis : ∀ x ∈ s.pa, x ∉ s.pb
  rem : s.lf = remM n i I J
  cnt : (s.pa.length : Int) + s.pb.length + s.lf = n
  la : leastM n ≤ s.pa.length + s.lf
  lb : leastM n ≤ s.pb.length + s.lf

theorem sub64 {x : Int} (h : 0 ≤ x) (h' : x ≤ 1048576) : isub .i64 x 1 = x - 1 := by
  unfold isub IntKind.wrap
  simp [IntKind.bits, IntKind.signed]
  omega
theorem add64 {x y : Int} (h : 0 ≤ x) (h' : x ≤ 1048576) (k : 0 ≤ y) (k' : y ≤ 1048576) : iadd .i64 x y = x + y := by
  unfold iadd IntKind.wrap
  simp [IntKind.bits, IntKind.signed]
  omega

theorem inv_step {l : List Key} (hn : l.length ≤ 64) (h2 : 2 ≤ l.length) {i : Nat} (hi : i < l.length) {s : Sides} (hs : Inv l.length (seedL l) (seedR l) i s) : Inv l.length (seedL l) (seedR l) (i + 1) (ptStep l i s) := by
  obtain ⟨b1, b2, b3⟩ := seed_bound h2
  obtain ⟨L1, L2⟩ := least_ok l.length (by omega) h2
  generalize hI : seedL l = I at *
  generalize hJ : seedR l = J at *
  obtain ⟨ba, bb, da, db, dis, rem, cnt, la, lb⟩ := hs
  have hrem := rem
  simp only [remM] at hrem
  unfold ptStep
  rw [hI, hJ]
  cases hsd : (ieq (i : Int) I || ieq (i : Int) J) with
  | true =>
    rw [if_pos rfl]
    have hor : (i : Int) = I ∨ (i : Int) = J := by simpa [ieq] using hsd
    refine ⟨fun x hx => ?_, fun x hx => ?_, da, db, dis, ?_, cnt, la, lb⟩
    · have := ba x hx; omega
    · have := bb x hx; omega
    · rw [rem]; simp only [remM]
      split <;> split <;> split <;> split <;> omega
  | false =>
    rw [if_neg (by simp)]
    have hne : (i : Int) ≠ I ∧ (i : Int) ≠ J := by simpa [ieq] using hsd
    have hlf1 : 1 ≤ s.lf := by
      split at hrem <;> split at hrem <;> omega
    have hrem' : s.lf - 1 = remM l.length (i + 1 : Nat) I J := by
      rw [rem]; simp only [remM]
      split <;> split <;> split <;> split <;> omega
    have hlf2 : s.lf ≤ 64 := by omega
    have e1 := sub64 (x := s.lf) (by omega) (by omega)
    have e2 := add64 (x := s.pa.length) (y := s.lf) (by omega) (by omega) (by omega) (by omega)
    have e3 := add64 (x := s.pb.length) (y := s.lf) (by omega) (by omega) (by omega) (by omega)
    have na : (i : Int) ∉ s.pa := fun h => by have := ba _ h; omega
    have nb : (i : Int) ∉ s.pb := fun h => by have := bb _ h; omega
    cases hch : chA s.pa.length s.pb.length s.lf (leastM l.length) s.ka s.kb (kg l i) with
    | true =>
      rw [if_pos rfl]
      have hb : leastM l.length ≤ s.pb.length + s.lf - 1 := by
        simp only [chA, e2, e3, ile, Bool.or_eq_true, Bool.and_eq_true, decide_eq_true_eq, Bool.not_eq_true', decide_eq_false_iff_not] at hch
        rcases hch with h | ⟨h, _⟩ <;> omega
      refine ⟨fun x hx => ?_, fun x hx => ?_, dif_snoc da na, db, fun x hx => ?_, by rw [e1]; exact hrem', ?_, ?_, ?_⟩
      · rcases List.mem_append.1 hx with h | h
        · have := ba x h; omega
        · simp at h; subst h; omega
      · have := bb x hx; omega
      · rcases List.mem_append.1 hx with h | h
        · exact dis x h
        · simp at h; subst h; exact nb
      · simp only [e1, List.length_append, List.length_cons, List.length_nil]; omega
      · simp only [e1, List.length_append, List.length_cons, List.length_nil]; omega
      · simp only [e1]; omega
    | false =>
      rw [if_neg (by simp)]
      have hb : leastM l.length ≤ s.pa.length + s.lf - 1 := by
        simp only [chA, e2, e3, ile, Bool.or_eq_false_iff, decide_eq_false_iff_not] at hch
        omega
      refine ⟨fun x hx => ?_, fun x hx => ?_, da, dif_snoc db nb, fun x hx => ?_, by rw [e1]; exact hrem', ?_, ?_, ?_⟩
      · have := ba x hx; omega
      · rcases List.mem_append.1 hx with h | h
        · have := bb x h; omega
        · simp at h; subst h; omega
      · intro h
        rcases List.mem_append.1 h with h | h
        · exact dis x hx h
        · simp at h; subst h; exact na hx
      · simp only [e1, List.length_append, List.length_cons, List.length_nil]; omega
      · simp only [e1]; omega
      · simp only [e1, List.length_append, List.length_cons, List.length_nil]; omega
theorem inv_out {l : List Key} (hn : l.length ≤ 64) (h2 : 2 ≤ l.length) : ∀ (f i : Nat) (s : Sides), i + f = l.length → Inv l.length (seedL l) (seedR l) i s → Inv l.length (seedL l) (seedR l) l.length (ptOut l f i s)
  | 0, i, s, h, hs => by have : i = l.length := by omega
                         subst this; exact hs
  | f + 1, i, s, h, hs => by
    simp only [ptOut]
    exact inv_out hn h2 f (i + 1) _ (by omega) (inv_step hn h2 (by omega) hs)
theorem inv_part {l : List Key} (hn : l.length ≤ 64) (h2 : 2 ≤ l.length) : Inv l.length (seedL l) (seedR l) l.length (partM l) := by
  unfold partM
  refine inv_out hn h2 _ _ _ (by omega) ?_
  obtain ⟨b1, b2, b3⟩ := seed_bound h2
  obtain ⟨L1, L2⟩ := least_ok l.length (by omega) h2
  have e : isub .i64 (l.length : Int) 2 = l.length - 2 := by
    unfold isub IntKind.wrap
    simp [IntKind.bits, IntKind.signed]
    omega
  unfold pt0
  refine ⟨fun x hx => ?_, fun x hx => ?_, ?_, ?_, fun x hx => ?_, ?_, ?_, ?_, ?_⟩
  · simp at hx; subst hx; omega
  · simp at hx; subst hx; omega
  · intro i j hi hj _; simp at hi hj; omega
  · intro i j hi hj _; simp at hi hj; omega
  · simp at hx; subst hx; simp; omega
  · simp only [e, remM]; split <;> split <;> omega
  · simp [e]; omega
  · simp [e]; omega
  · simp [e]; omega
end Go.Proofs.Ytemoagpahhdoeaa
