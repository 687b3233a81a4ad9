/- The document's bits: a number's bits, the number of bits. No condition. -/
import Derived.Test.YtemoagpahhdoeaaL1
namespace Go.Proofs.Ytemoagpahhdoeaa
open Go.Sy
set_option linter.unusedSimpArgs false
set_option linter.unusedVariables false
set_option maxRecDepth 100000

theorem step63' {i n : Nat} (h : i < n) (hn : n ≤ 1048576) : iadd .i64 (i : Int) 1 = ((i + 1 : Nat) : Int) := by
  unfold iadd IntKind.wrap
  simp [IntKind.bits, IntKind.signed]
  omega
theorem add64' {i : Nat} (h : i ≤ 1000) : iadd .i64 64 (i : Int) = ((64 + i : Nat) : Int) := by
  unfold iadd IntKind.wrap
  simp [IntKind.bits, IntKind.signed]
  omega
theorem elOff1 (i : Nat) : 0 + elOff ((i : Nat) : Int) 1 = i := by simp [elOff]
theorem setV1_get {xs : List Value} {off : Nat} {v : Value} (h : off < xs.length) (m : Nat) : (setV xs off [v])[m]? = if m = off then some v else xs[m]? := by
  rw [setV_get (by simp; omega)]
  simp only [List.length_cons, List.length_nil]
  by_cases e : m = off
  · subst e; rw [if_pos (by omega), if_pos rfl]; simp
  · rw [if_neg (by omega), if_neg e]
theorem setV1_len {xs : List Value} {off : Nat} {v : Value} (h : off < xs.length) : (setV xs off [v]).length = xs.length := setV_len (by simp; omega)
theorem row_fit {xs : List Value} {off : Nat} (h : off < xs.length) : cFit off 1 xs := by unfold cFit; omega
theorem cRow_nat {n i : Nat} (h : i < n) : cRow n (i : Int) := ⟨Int.natCast_nonneg _, Int.ofNat_lt.2 h⟩

/-- The bits that are laid ahead of a step. -/
@[irreducible] def pb (lo hi i : Nat) : List Value := (List.range 260).map fun j => vi' (if j < i then (bt lo j : Nat) else if 64 ≤ j ∧ j < 64 + i then (bt hi (j - 64) : Nat) else (0 : Nat))
theorem pb_len (lo hi i : Nat) : (pb lo hi i).length = 260 := by simp [pb]
theorem pb_get (lo hi i : Nat) {j : Nat} (h : j < 260) : (pb lo hi i)[j]? = some (vi' (if j < i then (bt lo j : Nat) else if 64 ≤ j ∧ j < 64 + i then (bt hi (j - 64) : Nat) else (0 : Nat))) := by simp [pb, h]
theorem pb_0 (lo hi : Nat) : pb lo hi 0 = List.replicate 260 (.int .i64 0) := by
  apply List.ext_getElem?
  intro j
  by_cases h : j < 260
  · rw [pb_get _ _ _ h, if_neg (by omega), if_neg (by omega), List.getElem?_replicate, if_pos h]
    rfl
  · rw [List.getElem?_eq_none (by rw [pb_len]; omega), List.getElem?_eq_none (by rw [List.length_replicate]; omega)]
theorem pb_step (lo hi : Nat) {i : Nat} (h : i < 64) : setV (setV (pb lo hi i) i [vi' (bt lo i : Nat)]) (64 + i) [vi' (bt hi i : Nat)] = pb lo hi (i + 1) := by
  have l1 : (setV (pb lo hi i) i [vi' (bt lo i : Nat)]).length = 260 := by rw [setV1_len (by rw [pb_len]; omega), pb_len]
  apply List.ext_getElem?
  intro j
  rw [setV1_get (by rw [l1]; omega), setV1_get (by rw [pb_len]; omega)]
  by_cases hj : j < 260
  · rw [pb_get _ _ _ hj, pb_get _ _ _ hj]
    by_cases e1 : j = 64 + i
    · subst e1
      rw [if_pos rfl, if_neg (by omega), if_pos (by omega), show 64 + i - 64 = i by omega]
    · rw [if_neg e1]
      by_cases e2 : j = i
      · subst e2
        rw [if_pos rfl, if_pos (by omega)]
      · rw [if_neg e2]
        by_cases e3 : j < i
        · rw [if_pos e3, if_pos (by omega)]
        · rw [if_neg e3, if_neg (show ¬ j < i + 1 by omega)]
          by_cases e4 : 64 ≤ j ∧ j < 64 + i
          · rw [if_pos e4, if_pos (by omega)]
          · rw [if_neg e4, if_neg (by omega)]
  · rw [if_neg (by omega), if_neg (by omega), List.getElem?_eq_none (by rw [pb_len]; omega), List.getElem?_eq_none (by rw [pb_len]; omega)]
theorem pb_end {lo hi : Nat} (hl : lo < 2 ^ 64) (hh : hi < 2 ^ 64) : pb lo hi 64 = bl (hi * 2 ^ 64 + lo) := by
  apply List.ext_getElem?
  intro j
  by_cases hj : j < 260
  · rw [pb_get _ _ _ hj, bl_get _ hj]
    by_cases e1 : j < 64
    · rw [if_pos e1, bt_low _ _ e1]
    · rw [if_neg e1]
      obtain ⟨k, rfl⟩ : ∃ k, j = 64 + k := ⟨j - 64, by omega⟩
      rw [bt_high _ _ hl]
      by_cases e2 : 64 ≤ 64 + k ∧ 64 + k < 64 + 64
      · rw [if_pos e2, show 64 + k - 64 = k by omega]
      · rw [if_neg e2, bt_zero' hh (by omega)]
  · rw [List.getElem?_eq_none (by rw [pb_len]; omega), List.getElem?_eq_none (by rw [bl_len]; omega)]
theorem p64_pow : p64 = 2 ^ 64 := by decide
theorem wf_nat {x : Wd} (h : WfW x) : ∃ lo hi : Nat, x = ⟨(hi : Int), (lo : Int)⟩ ∧ lo < 2 ^ 64 ∧ hi < 2 ^ 64 ∧ nw x = hi * 2 ^ 64 + lo := by
  have h0 := h.h0; have h1 := h.h1; have h2 := h.l0; have h3 := h.l1
  obtain ⟨hi, lo⟩ := x
  simp only at h0 h1 h2 h3
  refine ⟨lo.toNat, hi.toNat, ?_, by omega, by omega, by unfold nw; rw [p64_pow]⟩
  rw [Int.toNat_of_nonneg h0, Int.toNat_of_nonneg h2]

def bitsSt (lo hi i : Nat) : SS :=
  ⟨[(1, .e (.c (.ptr 1 0))), (2, .e (.c (.ptr 2 0))), (3, .e (.c (.ptr 3 0))), (4, .e (.c (.val (vi' i))))],
   [(1, .blk 37 [.val (.int .u64 (hi : Nat)), .val (.int .u64 (lo : Nat))]), (2, .row 61 1 260 (List.replicate 260 (.int .i64 0))), (3, .row 61 1 260 (pb lo hi i))], []⟩
def bitsG : PureG := fun F vs => match vs with
  | [.e (.agg [.val (.int .u64 hi), .val (.int .u64 lo)])] => some (.p (WfW ⟨hi, lo⟩), .e (.arr (bl (nw ⟨hi, lo⟩))))
  | _ => none
theorem bits_ok : SpecOK Try.prog 35 (pureS bitsG) := by
  refine pure_ok ⟨_, _, Try.func35, rfl, by kernel_rfl⟩ ?_
  intro F vs c v hp hc
  unfold bitsG at hp
  split at hp
  · rename_i hi0 lo0
    cases hp
    obtain ⟨lo, hi, hx, hl, hh, hn⟩ := wf_nat hc
    obtain ⟨rfl, rfl⟩ : hi0 = (hi : Int) ∧ lo0 = (lo : Int) := by cases hx; exact ⟨rfl, rfl⟩
    rw [hn]
    refine ⟨rfl, rfl, fun w hF => ?_⟩
    refine pure_calls (E := ⟨Ty, (fun _ => none), fun k => w.heap[k]?, 27, []⟩) Try.func35 rfl mixed Ty_ok (specs_nil _) rfl (by kernel_rfl) rfl rfl rfl ?_
    refine ⟨{ i : Nat // i ≤ 64 }, fun i => bitsSt lo hi i.1, fun i => 64 - i.1, ⟨0, by omega⟩, ?_, ?_⟩
    · refine ⟨fun x => x, rfl, rfl, ⟨by kernel_rfl, by kernel_rfl, by kernel_rfl, by kernel_rfl, trivial⟩, ⟨by kernel_rfl, by kernel_rfl, ?_, trivial⟩, rfl, rfl, rfl⟩
      exact congrArg (fun q => some (Atom.row 61 1 260 q)) (pb_0 lo hi).symm
    · rintro ⟨i, hi'⟩
      refine ⟨fun h1 => ?_, fun h1 => ?_⟩
      · have hlt : i < 64 := by simp [ilt, vi'] at h1; omega
        have e1 := step63' hlt (by omega)
        have e2 := add64' (i := i) (by omega)
        refine ⟨(by unfold cPos; exact Int.natCast_nonneg _ : cPos ((i : Nat) : Int)), ?_⟩
        refine ⟨(cRow_nat (by omega) : cRow 260 ((i : Nat) : Int)), ?_⟩
        refine ⟨(by rw [elOff1]; exact row_fit (by rw [pb_len]; omega) : cFit (0 + elOff ((i : Nat) : Int) 1) 1 (pb lo hi i)), ?_⟩
        refine ⟨(by unfold cPos; exact Int.natCast_nonneg _ : cPos ((i : Nat) : Int)), ?_⟩
        refine ⟨(by rw [e2]; exact cRow_nat (by omega) : cRow 260 (iadd .i64 64 ((i : Nat) : Int))), ?_⟩
        have x1 : setV (pb lo hi i) (0 + elOff ((i : Nat) : Int) 1) [.int .i64 (iconv .i64 (iand .u64 (ishr .u64 (lo : Nat) (i : Nat)) 1))] = setV (pb lo hi i) i [vi' (bt lo i : Nat)] := by
          rw [elOff1, bit_of lo (by omega) (by omega)]; rfl
        have x2 : setV (setV (pb lo hi i) (0 + elOff ((i : Nat) : Int) 1) [.int .i64 (iconv .i64 (iand .u64 (ishr .u64 (lo : Nat) (i : Nat)) 1))]) (0 + elOff (iadd .i64 64 ((i : Nat) : Int)) 1) [.int .i64 (iconv .i64 (iand .u64 (ishr .u64 (hi : Nat) (i : Nat)) 1))] = pb lo hi (i + 1) := by
          rw [x1, e2, elOff1, bit_of hi (by omega) (by omega)]
          exact pb_step lo hi hlt
        refine ⟨(by rw [x1, e2, elOff1]; exact row_fit (by rw [setV1_len (by rw [pb_len]; omega), pb_len]; omega) : cFit (0 + elOff (iadd .i64 64 ((i : Nat) : Int)) 1) 1 (setV (pb lo hi i) (0 + elOff ((i : Nat) : Int) 1) [.int .i64 (iconv .i64 (iand .u64 (ishr .u64 (lo : Nat) (i : Nat)) 1))])), ?_⟩
        refine ⟨⟨i + 1, by omega⟩, ⟨fun x => x, rfl, rfl, ⟨by kernel_rfl, by kernel_rfl, by kernel_rfl, ?_, trivial⟩, ⟨by kernel_rfl, by kernel_rfl, ?_, trivial⟩, rfl, rfl, rfl⟩, by simp; omega⟩
        · exact congrArg (fun q => some (SV.e (SE.c (SC.val (vi' q))))) e1
        · exact congrArg (fun q => some (Atom.row 61 1 260 q)) x2
      · have hin : i = 64 := by simp [ilt, vi'] at h1; omega
        subst hin
        have x := pb_end hl hh
        refine ⟨(show cArr (pb lo hi 64) 260 from by rw [x]; exact bl_arr _), ?_⟩
        exact ⟨x, trivial⟩
  · cases hp
end Go.Proofs.Ytemoagpahhdoeaa
