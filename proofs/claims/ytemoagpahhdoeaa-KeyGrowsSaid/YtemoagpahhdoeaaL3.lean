/- The document's bits: the number of bits; bits added; bits compared. No condition. -/
import Derived.Test.YtemoagpahhdoeaaL2
namespace Go.Proofs.Ytemoagpahhdoeaa
open Go.Sy
set_option linter.unusedSimpArgs false
set_option linter.unusedVariables false
set_option maxRecDepth 100000

def spb : Specs := consSp 35 (pureS bitsG) (fun _ => none)
theorem spb_ok : SpecsOK Try.prog spb := specs_cons bits_ok (specs_nil _)
theorem cPos_nat (i : Nat) : cPos (i : Int) := by unfold cPos; exact Int.natCast_nonneg _
def ofSt (n i : Nat) : SS :=
  ⟨[(1, .e (.c (.ptr 1 0))), (2, .e (.c (.ptr 2 0))), (3, .e (.c (.ptr 3 0))), (4, .e (.c (.val (vi' i))))],
   [(1, .row 61 1 260 (bl n)), (2, .blk 37 [.val (.int .u64 0), .val (.int .u64 0)]), (3, .blk 37 [.val (.int .u64 ((n / 2 ^ 64 % 2 ^ i : Nat) : Int)), .val (.int .u64 ((n % 2 ^ i : Nat) : Int))])], []⟩
noncomputable def rofG : PureG := fun F vs => match vs with
  | [.e (.arr xs)] => some (.p (IsB xs), .e (wv (ofN (nl xs))))
  | _ => none
theorem bt_div (n i : Nat) : bt (n / 2 ^ 64) i = bt n (64 + i) := by
  unfold bt
  rw [Nat.pow_add, Nat.div_div_eq_div_mul]
theorem rof_ok : SpecOK Try.prog 36 (pureS rofG) := by
  refine pure_ok ⟨_, _, Try.func36, rfl, by kernel_rfl⟩ ?_
  intro F vs c v hp hc
  unfold rofG at hp
  split at hp
  · rename_i xs
    cases hp
    obtain ⟨hx, hn⟩ := bl_nl hc
    obtain ⟨n, hnn⟩ : ∃ n, nl xs = n := ⟨_, rfl⟩
    rw [hnn] at hx ⊢
    subst hx
    refine ⟨rfl, rfl, fun w hF => ?_⟩
    refine pure_calls (E := ⟨Ty, (fun _ => none), fun k => w.heap[k]?, 31, []⟩) Try.func36 rfl mixed Ty_ok (specs_nil _) rfl (by kernel_rfl) rfl rfl rfl ?_
    refine ⟨bl_arr n, ?_⟩
    refine ⟨{ i : Nat // i ≤ 64 }, fun i => ofSt n i.1, fun i => 64 - i.1, ⟨0, by omega⟩, ?_, ?_⟩
    · refine ⟨fun x => x, rfl, rfl, ⟨by kernel_rfl, by kernel_rfl, by kernel_rfl, by kernel_rfl, trivial⟩, ⟨by kernel_rfl, by kernel_rfl, ?_, trivial⟩, rfl, rfl, rfl⟩
      have e0 : ∀ m : Nat, ((m % 2 ^ 0 : Nat) : Int) = 0 := fun m => by rw [Nat.pow_zero, Nat.mod_one]; rfl
      exact (show some (Atom.blk 37 [.val (.int .u64 0), .val (.int .u64 0)]) = some (Atom.blk 37 [.val (.int .u64 ((n / 2 ^ 64 % 2 ^ 0 : Nat) : Int)), .val (.int .u64 ((n % 2 ^ 0 : Nat) : Int))]) from by rw [e0, e0])
    · rintro ⟨i, hi'⟩
      refine ⟨fun h1 => ?_, fun h1 => ?_⟩
      · have hlt : i < 64 := by simp [ilt, vi'] at h1; omega
        have e1 := step63' hlt (by omega)
        have e2 := add64' (i := i) (by omega)
        refine ⟨(cRow_nat (by omega) : cRow 260 ((i : Nat) : Int)), ?_⟩
        refine ⟨(by rw [elOff1]; exact bl_cells n (by omega) : cCells (bl n) (0 + elOff ((i : Nat) : Int) 1) [.int .i64 0]), ?_⟩
        refine ⟨(cPos_nat i : cPos ((i : Nat) : Int)), ?_⟩
        refine ⟨by kernel_rfl, ?_⟩
        refine ⟨(by rw [e2]; exact cRow_nat (by omega) : cRow 260 (iadd .i64 64 ((i : Nat) : Int))), ?_⟩
        refine ⟨(by rw [e2, elOff1]; exact bl_cells n (by omega) : cCells (bl n) (0 + elOff (iadd .i64 64 ((i : Nat) : Int)) 1) [.int .i64 0]), ?_⟩
        refine ⟨(cPos_nat i : cPos ((i : Nat) : Int)), ?_⟩
        have hp : ∀ m : Nat, m % 2 ^ i < 2 ^ i := fun m => Nat.mod_lt _ (Nat.two_pow_pos i)
        have x1 : ior .u64 ((n % 2 ^ i : Nat) : Int) (ishl .u64 (iconv .u64 (celI (bl n) (0 + elOff ((i : Nat) : Int) 1 + 0))) (i : Nat)) = ((n % 2 ^ (i + 1) : Nat) : Int) := by
          rw [elOff1, Nat.add_zero, bl_cel n (by omega), or_bit _ _ hlt (hp n) (bt_lt n i), mod_step]
        have x2 : ior .u64 ((n / 2 ^ 64 % 2 ^ i : Nat) : Int) (ishl .u64 (iconv .u64 (celI (bl n) (0 + elOff (iadd .i64 64 ((i : Nat) : Int)) 1 + 0))) (i : Nat)) = ((n / 2 ^ 64 % 2 ^ (i + 1) : Nat) : Int) := by
          rw [e2, elOff1, Nat.add_zero, bl_cel n (by omega), ← bt_div, or_bit _ _ hlt (hp _) (bt_lt _ i), mod_step]
        refine ⟨by kernel_rfl, ⟨i + 1, by omega⟩, ⟨fun x => x, rfl, rfl, ⟨by kernel_rfl, by kernel_rfl, by kernel_rfl, ?_, trivial⟩, ⟨by kernel_rfl, by kernel_rfl, ?_, trivial⟩, rfl, rfl, rfl⟩, by simp; omega⟩
        · exact congrArg (fun q => some (SV.e (SE.c (SC.val (vi' q))))) e1
        · exact congr (congrArg (fun p q => some (Atom.blk 37 [.val (.int .u64 p), .val (.int .u64 q)])) x2) x1
      · have hin : i = 64 := by simp [ilt, vi'] at h1; omega
        subst hin
        exact ⟨rfl, by simp only [ofN, p64_pow], rfl, by simp only [ofN, p64_pow], trivial⟩
  · cases hp

/-! ### Bits added -/
@[irreducible] def pl (n m up i : Nat) : List Value := (List.range 260).map fun j => vi' (if j < i then (bt (n + m * 2 ^ up) j : Nat) else (bt n j : Nat))
theorem pl_len (n m up i : Nat) : (pl n m up i).length = 260 := by simp [pl]
theorem pl_get (n m up i : Nat) {j : Nat} (h : j < 260) : (pl n m up i)[j]? = some (vi' (if j < i then (bt (n + m * 2 ^ up) j : Nat) else (bt n j : Nat))) := by simp [pl, h]
theorem pl_0 (n m up : Nat) : pl n m up up = bl n := by
  apply List.ext_getElem?
  intro j
  by_cases h : j < 260
  · rw [pl_get _ _ _ _ h, bl_get _ h]
    by_cases e : j < up
    · rw [if_pos e, Nat.add_comm, bt_low _ _ e]
    · rw [if_neg e]
  · rw [List.getElem?_eq_none (by rw [pl_len]; omega), List.getElem?_eq_none (by rw [bl_len]; omega)]
theorem pl_end (n m up : Nat) : pl n m up 260 = bl (n + m * 2 ^ up) := by
  apply List.ext_getElem?
  intro j
  by_cases h : j < 260
  · rw [pl_get _ _ _ _ h, bl_get _ h, if_pos h]
  · rw [List.getElem?_eq_none (by rw [pl_len]; omega), List.getElem?_eq_none (by rw [bl_len]; omega)]
theorem pl_step (n m up : Nat) {i : Nat} (h : i < 260) : setV (pl n m up i) i [vi' (bt (n + m * 2 ^ up) i : Nat)] = pl n m up (i + 1) := by
  apply List.ext_getElem?
  intro j
  rw [setV1_get (by rw [pl_len]; omega)]
  by_cases hj : j < 260
  · rw [pl_get _ _ _ _ hj, pl_get _ _ _ _ hj]
    by_cases e : j = i
    · subst e; rw [if_pos rfl, if_pos (by omega)]
    · rw [if_neg e]
      by_cases e2 : j < i
      · rw [if_pos e2, if_pos (by omega)]
      · rw [if_neg e2, if_neg (by omega)]
  · rw [if_neg (by omega), List.getElem?_eq_none (by rw [pl_len]; omega), List.getElem?_eq_none (by rw [pl_len]; omega)]
theorem small_sum (a b c : Nat) (ha : a < 2) (hb : b < 2) (hc : c ≤ 1) : irem (iadd .i64 (iadd .i64 (a : Int) (b : Int)) (c : Int)) 2 = (((a + b + c) % 2 : Nat) : Int) ∧ iquo .i64 (iadd .i64 (iadd .i64 (a : Int) (b : Int)) (c : Int)) 2 = (((a + b + c) / 2 : Nat) : Int) := by
  have ha' : a = 0 ∨ a = 1 := by omega
  have hb' : b = 0 ∨ b = 1 := by omega
  have hc' : c = 0 ∨ c = 1 := by omega
  rcases ha' with rfl | rfl <;> rcases hb' with rfl | rfl <;> rcases hc' with rfl | rfl <;> exact ⟨by kernel_rfl, by kernel_rfl⟩
theorem sub_nat {i up : Nat} (h : up ≤ i) (hi : i ≤ 1000) : isub .i64 (i : Int) (up : Int) = ((i - up : Nat) : Int) := by
  unfold isub IntKind.wrap
  simp [IntKind.bits, IntKind.signed]
  omega
def plSt (n m up i : Nat) : SS :=
  ⟨[(2, .e (.c (.val (vi' up)))), (3, .e (.c (.ptr 3 0))), (4, .e (.c (.ptr 4 0))), (6, .e (.c (.ptr 6 0))), (7, .e (.c (.val (vi' (cy n (m * 2 ^ up) i : Nat))))), (8, .e (.c (.val (vi' i))))],
   [(3, .row 61 1 260 (pl n m up i)), (4, .row 61 1 260 (bl m)), (6, .row 61 1 260 (List.replicate 260 (.int .i64 0)))], []⟩
noncomputable def plusG : PureG := fun F vs => match vs with
  | [.e (.arr xs), .e (.arr ys), .e (.c (.val (.int .i64 up)))] => some (.p (IsB xs ∧ IsB ys ∧ 0 ≤ up ∧ up ≤ 200), .e (.arr (bl (nl xs + nl ys * 2 ^ up.toNat))))
  | _ => none
theorem plus_ok : SpecOK Try.prog 34 (pureS plusG) := by
  refine pure_ok ⟨_, _, Try.func34, rfl, by kernel_rfl⟩ ?_
  intro F vs c v hp hc
  unfold plusG at hp
  split at hp
  · rename_i xs ys up0
    cases hp
    obtain ⟨hc1, hc2, hu0, hu1⟩ := hc
    obtain ⟨hx, hn⟩ := bl_nl hc1
    obtain ⟨hy, hm⟩ := bl_nl hc2
    obtain ⟨n, hnn⟩ : ∃ n, nl xs = n := ⟨_, rfl⟩
    obtain ⟨m, hmm⟩ : ∃ m, nl ys = m := ⟨_, rfl⟩
    obtain ⟨up, rfl⟩ : ∃ up : Nat, up0 = up := ⟨up0.toNat, by rw [Int.toNat_of_nonneg hu0]⟩
    rw [hnn] at hx ⊢
    rw [hmm] at hy ⊢
    subst hx hy
    have hup : up ≤ 200 := by omega
    refine ⟨rfl, rfl, fun w hF => ?_⟩
    refine pure_calls (E := ⟨Ty, (fun _ => none), fun k => w.heap[k]?, 33, []⟩) Try.func34 rfl mixed Ty_ok (specs_nil _) rfl (by kernel_rfl) rfl rfl rfl ?_
    refine ⟨bl_arr n, ?_⟩
    refine ⟨bl_arr m, ?_⟩
    refine ⟨{ i : Nat // up ≤ i ∧ i ≤ 260 }, fun i => plSt n m up i.1, fun i => 260 - i.1, ⟨up, by omega⟩, ?_, ?_⟩
    · refine ⟨fun x => x, rfl, rfl, ⟨by kernel_rfl, by kernel_rfl, by kernel_rfl, by kernel_rfl, ?_, by kernel_rfl, trivial⟩, ⟨?_, by kernel_rfl, by kernel_rfl, trivial⟩, rfl, rfl, rfl⟩
      · exact congrArg (fun q : Nat => some (SV.e (SE.c (SC.val (vi' q))))) (cy_up n m up).symm
      · exact congrArg (fun q => some (Atom.row 61 1 260 q)) (pl_0 n m up).symm
    · rintro ⟨i, hi0, hi'⟩
      refine ⟨fun h1 => ?_, fun h1 => ?_⟩
      · have hlt : i < 260 := by simp [ilt, vi'] at h1; omega
        have e1 := step63' hlt (by omega)
        have e2 := sub_nat (i := i) hi0 (by omega)
        have g1 : (pl n m up i)[i]? = some (vi' (bt n i : Nat)) := by rw [pl_get _ _ _ _ hlt, if_neg (by omega)]
        have v1 : celI (pl n m up i) (0 + elOff ((i : Nat) : Int) 1 + 0) = (bt n i : Nat) := by rw [elOff1, Nat.add_zero]; unfold celI; rw [g1]; rfl
        have v2 : celI (bl m) (0 + elOff (isub .i64 ((i : Nat) : Int) ((up : Nat) : Int)) 1 + 0) = (bt (m * 2 ^ up) i : Nat) := by
          rw [e2, elOff1, Nat.add_zero, bl_cel m (by omega)]
          have := bt_shift m up (i - up)
          rw [show up + (i - up) = i by omega] at this
          rw [this]
        refine ⟨(cRow_nat (by omega) : cRow 260 ((i : Nat) : Int)), ?_⟩
        refine ⟨(by rw [elOff1]; exact cells_of g1 : cCells (pl n m up i) (0 + elOff ((i : Nat) : Int) 1) [.int .i64 0]), ?_⟩
        refine ⟨(by rw [e2]; exact cRow_nat (by omega) : cRow 260 (isub .i64 ((i : Nat) : Int) ((up : Nat) : Int))), ?_⟩
        refine ⟨(by rw [e2, elOff1]; exact bl_cells m (by omega) : cCells (bl m) (0 + elOff (isub .i64 ((i : Nat) : Int) ((up : Nat) : Int)) 1) [.int .i64 0]), ?_⟩
        refine ⟨by kernel_rfl, ?_⟩
        refine ⟨(by unfold cNz; decide : cNz 2), ?_⟩
        refine ⟨(cRow_nat (by omega) : cRow 260 ((i : Nat) : Int)), ?_⟩
        refine ⟨(by rw [elOff1]; exact row_fit (by rw [pl_len]; omega) : cFit (0 + elOff ((i : Nat) : Int) 1) 1 (pl n m up i)), ?_⟩
        refine ⟨(by unfold cNz; decide : cNz 2), ?_⟩
        obtain ⟨s1, s2⟩ := small_sum (bt n i) (bt (m * 2 ^ up) i) (cy n (m * 2 ^ up) i) (bt_lt _ _) (bt_lt _ _) (cy_le _ _ _)
        obtain ⟨c1, c2⟩ := cy_step n (m * 2 ^ up) i
        refine ⟨⟨i + 1, by omega⟩, ⟨fun x => x, rfl, rfl, ⟨by kernel_rfl, by kernel_rfl, by kernel_rfl, by kernel_rfl, ?_, ?_, trivial⟩, ⟨?_, by kernel_rfl, by kernel_rfl, trivial⟩, rfl, rfl, rfl⟩, by simp; omega⟩
        · refine (show some (SV.e (SE.c (SC.val (vi' (iquo .i64 (iadd .i64 (iadd .i64 (celI (pl n m up i) (0 + elOff ((i : Nat) : Int) 1 + 0)) (celI (bl m) (0 + elOff (isub .i64 ((i : Nat) : Int) ((up : Nat) : Int)) 1 + 0))) ((cy n (m * 2 ^ up) i : Nat) : Int)) 2))))) = some (SV.e (SE.c (SC.val (vi' (cy n (m * 2 ^ up) (i + 1) : Nat))))) from ?_)
          rw [v1, v2, s2, c2]
        · exact congrArg (fun q => some (SV.e (SE.c (SC.val (vi' q))))) e1
        · refine (show some (Atom.row 61 1 260 (setV (pl n m up i) (0 + elOff ((i : Nat) : Int) 1) [.int .i64 (irem (iadd .i64 (iadd .i64 (celI (pl n m up i) (0 + elOff ((i : Nat) : Int) 1 + 0)) (celI (bl m) (0 + elOff (isub .i64 ((i : Nat) : Int) ((up : Nat) : Int)) 1 + 0))) ((cy n (m * 2 ^ up) i : Nat) : Int)) 2)])) = some (Atom.row 61 1 260 (pl n m up (i + 1))) from ?_)
          rw [v1, v2, s1, ← c1, elOff1]
          exact congrArg (fun q => some (Atom.row 61 1 260 q)) (pl_step n m up hlt)
      · have hin : i = 260 := by simp [ilt, vi'] at h1; omega
        subst hin
        have x := pl_end n m up
        refine ⟨(show cArr (pl n m up 260) 260 from by rw [x]; exact bl_arr _), ?_⟩
        exact ⟨x, trivial⟩
  · cases hp

/-! ### Bits compared -/
def cmpN (n m : Nat) : Int := if n = m then 0 else if n < m then -1 else 1
theorem cmp_at {n m k : Nat} (h : n / 2 ^ (k + 1) = m / 2 ^ (k + 1)) : (bt n k = bt m k → n / 2 ^ k = m / 2 ^ k) ∧ (bt n k ≠ bt m k → cmpN n m = (bt n k : Int) - (bt m k : Int)) := by
  have e : ∀ q : Nat, q / 2 ^ k = 2 * (q / 2 ^ (k + 1)) + bt q k := fun q => by
    unfold bt
    rw [Nat.pow_succ, ← Nat.div_div_eq_div_mul]
    omega
  have e1 := e n
  have e2 := e m
  rw [h] at e1
  have b1 := bt_lt n k
  have b2 := bt_lt m k
  refine ⟨fun hb => by rw [e1, e2, hb], fun hb => ?_⟩
  have hne : n ≠ m := fun q => hb (by rw [q])
  unfold cmpN
  rw [if_neg hne]
  have mono : n ≤ m → n / 2 ^ k ≤ m / 2 ^ k := fun q => Nat.div_le_div_right q
  have mono' : m ≤ n → m / 2 ^ k ≤ n / 2 ^ k := fun q => Nat.div_le_div_right q
  split
  · rename_i hlt
    have := mono (by omega)
    omega
  · have := mono' (by omega)
    omega
def cmSt (n m k : Nat) : SS :=
  ⟨[(5, .e (.c (.ptr 5 0))), (6, .e (.c (.ptr 6 0))), (7, .e (.c (.val (vi' ((k : Int) - 1)))))],
   [(5, .row 61 1 260 (bl n)), (6, .row 61 1 260 (bl m))], []⟩
def rcmpG : PureG := fun F vs => match vs with
  | [.e (.agg [.val (.int .u64 a), .val (.int .u64 b)]), .e (.agg [.val (.int .u64 c), .val (.int .u64 d)])] => some (.p (WfW ⟨a, b⟩ ∧ WfW ⟨c, d⟩), .e (.c (.val (vi' (cmpN (nw ⟨a, b⟩) (nw ⟨c, d⟩))))))
  | _ => none
theorem isub_bits {a b : Nat} (ha : a < 2) (hb : b < 2) : isub .i64 (a : Int) (b : Int) = (a : Int) - (b : Int) := by
  have ha' : a = 0 ∨ a = 1 := by omega
  have hb' : b = 0 ∨ b = 1 := by omega
  rcases ha' with rfl | rfl <;> rcases hb' with rfl | rfl <;> unfold isub <;> decide
theorem rcmp_ok : SpecOK Try.prog 37 (pureS rcmpG) := by
  refine pure_ok ⟨_, _, Try.func37, rfl, by kernel_rfl⟩ ?_
  intro F vs c v hp hc
  unfold rcmpG at hp
  split at hp
  · rename_i a0 a1 b0 b1
    cases hp
    obtain ⟨hc1, hc2⟩ := hc
    obtain ⟨n, hnn⟩ : ∃ n, nw ⟨a0, a1⟩ = n := ⟨_, rfl⟩
    obtain ⟨m, hmm⟩ : ∃ m, nw ⟨b0, b1⟩ = m := ⟨_, rfl⟩
    have hn := nw_lt hc1
    have hm := nw_lt hc2
    rw [hnn] at hn ⊢
    rw [hmm] at hm ⊢
    refine ⟨rfl, rfl, fun w hF => ?_⟩
    refine pure_calls (E := ⟨Ty, spb, fun k => w.heap[k]?, 30, []⟩) Try.func37 rfl mixed Ty_ok spb_ok rfl (by kernel_rfl) rfl rfl rfl ?_
    refine ⟨hc1, ?_⟩
    refine ⟨hc2, ?_⟩
    rw [hnn, hmm]
    refine ⟨bl_arr n, ?_⟩
    refine ⟨bl_arr m, ?_⟩
    refine ⟨by kernel_rfl, ?_⟩
    have e128 : p64 * p64 = 2 ^ 128 := by decide
    rw [e128] at hn hm
    have h128 : ∀ q : Nat, q < 2 ^ 128 → q / 2 ^ 128 = 0 := fun q hq => Nat.div_eq_of_lt hq
    refine ⟨{ k : Nat // k ≤ 128 ∧ n / 2 ^ k = m / 2 ^ k }, fun k => cmSt n m k.1, fun k => k.1, ⟨128, by omega, by rw [h128 n hn, h128 m hm]⟩, ?_, ?_⟩
    · exact ⟨fun x => x, rfl, rfl, ⟨by kernel_rfl, by kernel_rfl, by kernel_rfl, trivial⟩, ⟨by kernel_rfl, by kernel_rfl, trivial⟩, rfl, rfl, rfl⟩
    · rintro ⟨k, hk, hq⟩
      refine ⟨fun h1 => ?_, fun h1 => ?_⟩
      · have hpos : 0 < k := by
          have : ile 0 ((k : Int) - 1) = true := h1
          simp [ile] at this
          omega
        obtain ⟨k', rfl⟩ : ∃ k', k = k' + 1 := ⟨k - 1, by omega⟩
        have e1 : (((k' + 1 : Nat) : Int) - 1) = ((k' : Nat) : Int) := by omega
        have e2 : isub .i64 ((k' : Nat) : Int) 1 = ((k' : Nat) : Int) - 1 := by
          unfold isub IntKind.wrap
          simp [IntKind.bits, IntKind.signed]
          omega
        obtain ⟨q1, q2⟩ := cmp_at hq
        have cr : cRow 260 (((k' + 1 : Nat) : Int) - 1) := by rw [e1]; exact cRow_nat (by omega)
        have cn : cCells (bl n) (0 + elOff (((k' + 1 : Nat) : Int) - 1) 1) [.int .i64 0] := by rw [e1, elOff1]; exact bl_cells n (by omega)
        have cm : cCells (bl m) (0 + elOff (((k' + 1 : Nat) : Int) - 1) 1) [.int .i64 0] := by rw [e1, elOff1]; exact bl_cells m (by omega)
        have v1 : celI (bl n) (0 + elOff (((k' + 1 : Nat) : Int) - 1) 1 + 0) = (bt n k' : Nat) := by rw [e1, elOff1, Nat.add_zero, bl_cel n (by omega)]
        have v2 : celI (bl m) (0 + elOff (((k' + 1 : Nat) : Int) - 1) 1 + 0) = (bt m k' : Nat) := by rw [e1, elOff1, Nat.add_zero, bl_cel m (by omega)]
        refine ⟨cr, cn, cr, cm, ?_⟩
        refine ⟨by kernel_rfl, fun h2 => ?_, fun h2 => ?_⟩
        · have h2' : ine (celI (bl n) (0 + elOff (((k' + 1 : Nat) : Int) - 1) 1 + 0)) (celI (bl m) (0 + elOff (((k' + 1 : Nat) : Int) - 1) 1 + 0)) = true := h2
          rw [v1, v2] at h2'
          have hne : bt n k' ≠ bt m k' := fun q => by rw [q] at h2'; simp [ine] at h2'
          refine ⟨cr, cn, cr, cm, ?_⟩
          refine ⟨by kernel_rfl, rfl, ?_, trivial⟩
          refine (show isub .i64 (celI (bl n) (0 + elOff (((k' + 1 : Nat) : Int) - 1) 1 + 0)) (celI (bl m) (0 + elOff (((k' + 1 : Nat) : Int) - 1) 1 + 0)) = cmpN n m from ?_)
          rw [v1, v2, q2 hne, isub_bits (bt_lt _ _) (bt_lt _ _)]
        · have h2' : ine (celI (bl n) (0 + elOff (((k' + 1 : Nat) : Int) - 1) 1 + 0)) (celI (bl m) (0 + elOff (((k' + 1 : Nat) : Int) - 1) 1 + 0)) = false := h2
          rw [v1, v2] at h2'
          have heq : bt n k' = bt m k' := by
            have : ((bt n k' : Nat) : Int) = (bt m k' : Nat) := by simpa [ine] using h2'
            omega
          refine ⟨⟨k', by omega, q1 heq⟩, ⟨fun x => x, rfl, rfl, ⟨by kernel_rfl, by kernel_rfl, ?_, trivial⟩, ⟨by kernel_rfl, by kernel_rfl, trivial⟩, rfl, rfl, rfl⟩, by simp⟩
          refine (show some (SV.e (SE.c (SC.val (vi' (isub .i64 (((k' + 1 : Nat) : Int) - 1) 1))))) = some (SV.e (SE.c (SC.val (vi' ((k' : Int) - 1))))) from ?_)
          rw [e1, e2]
      · have h0 : k = 0 := by
          have : ile 0 ((k : Int) - 1) = false := h1
          simp [ile] at this
          omega
        subst h0
        have : n = m := by simpa using hq
        exact ⟨rfl, by simp [cmpN, this], trivial⟩
  · cases hp
end Go.Proofs.Ytemoagpahhdoeaa
