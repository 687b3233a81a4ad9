/- The document's products, sums and differences; areas and margins. No condition. -/
import Derived.Test.YtemoagpahhdoeaaL4
import Derived.Test.YtemoagpahhdoeaaKd
namespace Go.Proofs.Ytemoagpahhdoeaa
open Go.Sy
set_option linter.unusedSimpArgs false
set_option linter.unusedVariables false
set_option maxRecDepth 100000

noncomputable def spc : Specs := consSp 34 (pureS plusG) (consSp 36 (pureS rofG) (consSp 37 (pureS rcmpG) spb))
theorem spc_ok : SpecsOK Try.prog spc := specs_cons plus_ok (specs_cons rof_ok (specs_cons rcmp_ok spb_ok))
theorem bl_0 : List.replicate 260 (Value.int .i64 0) = bl 0 := by
  apply List.ext_getElem?
  intro j
  by_cases h : j < 260
  · rw [bl_get _ h, List.getElem?_replicate, if_pos h]
    have : bt 0 j = 0 := by unfold bt; simp
    rw [this]
    rfl
  · rw [List.getElem?_eq_none (by rw [List.length_replicate]; omega), List.getElem?_eq_none (by rw [bl_len]; omega)]
theorem nw_lo {a : Int} (h : WfW ⟨0, a⟩) : nw ⟨0, a⟩ = a.toNat ∧ a.toNat < p64 := by
  have h1 := h.l0
  have h2 := h.l1
  simp only at h1 h2
  unfold nw p64
  simp only
  omega
theorem lt260 {n : Nat} (h : n < p64 * p64) : n < 2 ^ b260 := Nat.lt_trans h p128
def mulSt (a b i : Nat) : SS :=
  ⟨[(4, .e (.c (.ptr 4 0))), (5, .e (.c (.ptr 5 0))), (6, .e (.c (.ptr 6 0))), (7, .e (.c (.ptr 7 0))), (8, .e (.c (.val (vi' i))))],
   [(4, .blk 37 [.val (.int .u64 0), .val (.int .u64 0)]), (5, .row 61 1 260 (bl a)), (6, .row 61 1 260 (bl b)), (7, .row 61 1 260 (bl (a * (b % 2 ^ i))))], []⟩
def rmulG : PureG := fun F vs => match vs with
  | [.e (.c (.val (.int .u64 a))), .e (.c (.val (.int .u64 b)))] => some (.p (WfW ⟨0, a⟩ ∧ WfW ⟨0, b⟩), .e (wv (ofN (a.toNat * b.toNat))))
  | _ => none
theorem rmul_ok : SpecOK Try.prog 38 (pureS rmulG) := by
  refine pure_ok ⟨_, _, Try.func38, rfl, by kernel_rfl⟩ ?_
  intro F vs c v hp hc
  unfold rmulG at hp
  split at hp
  · rename_i a0 b0
    cases hp
    obtain ⟨hc1, hc2⟩ := hc
    obtain ⟨n1, n2⟩ := nw_lo hc1
    obtain ⟨m1, m2⟩ := nw_lo hc2
    obtain ⟨a, haa⟩ : ∃ a, a0.toNat = a := ⟨_, rfl⟩
    obtain ⟨b, hbb⟩ : ∃ b, b0.toNat = b := ⟨_, rfl⟩
    rw [haa] at n1 n2 ⊢
    rw [hbb] at m1 m2 ⊢
    refine ⟨rfl, rfl, fun w hF => ?_⟩
    refine pure_calls (E := ⟨Ty, spc, fun k => w.heap[k]?, 29, []⟩) Try.func38 rfl mixed Ty_ok spc_ok rfl (by kernel_rfl) rfl rfl rfl ?_
    refine ⟨hc1, ?_⟩
    refine ⟨hc2, ?_⟩
    refine ⟨bl_arr _, ?_⟩
    refine ⟨bl_arr _, ?_⟩
    have ha2 : a < p64 * p64 := Nat.lt_of_lt_of_le n2 (by decide)
    have hsm : ∀ i, i ≤ 64 → a * (b % 2 ^ i) < p64 * p64 := fun i hi => Nat.mul_lt_mul_of_lt_of_le n2 (Nat.le_trans (Nat.mod_le _ _) (Nat.le_of_lt m2)) (by decide)
    have hsh : ∀ i, i < 64 → a * 2 ^ i < p64 * p64 := fun i hi => Nat.mul_lt_mul_of_lt_of_le n2 (by have := pow_lt64 hi; unfold p64; omega) (by decide)
    refine ⟨{ i : Nat // i ≤ 64 }, fun i => mulSt a b i.1, fun i => 64 - i.1, ⟨0, by omega⟩, ?_, ?_⟩
    · refine ⟨fun x => x, rfl, rfl, ⟨by kernel_rfl, by kernel_rfl, by kernel_rfl, by kernel_rfl, by kernel_rfl, trivial⟩, ⟨by kernel_rfl, ?_, ?_, ?_, trivial⟩, rfl, rfl, rfl⟩
      · exact congrArg (fun q => some (Atom.row 61 1 260 (bl q))) n1
      · exact congrArg (fun q => some (Atom.row 61 1 260 (bl q))) m1
      · have e : a * (b % 2 ^ 0) = 0 := by rw [Nat.pow_zero, Nat.mod_one, Nat.mul_zero]
        exact congrArg (fun q => some (Atom.row 61 1 260 q)) (bl_0.trans (congrArg bl e.symm))
    · rintro ⟨i, hi'⟩
      refine ⟨fun h1 => ?_, fun h1 => ?_⟩
      · have hlt : i < 64 := by simp [ilt, vi'] at h1; omega
        have e1 := step63' hlt (by omega)
        have v1 : celI (bl b) (0 + elOff ((i : Nat) : Int) 1 + 0) = (bt b i : Nat) := by rw [elOff1, Nat.add_zero, bl_cel b (by omega)]
        refine ⟨(cRow_nat (by omega) : cRow 260 ((i : Nat) : Int)), ?_⟩
        refine ⟨(by rw [elOff1]; exact bl_cells b (by omega) : cCells (bl b) (0 + elOff ((i : Nat) : Int) 1) [.int .i64 0]), ?_⟩
        have b2 := bt_lt b i
        refine ⟨fun h2 => ?_, fun h2 => ?_⟩
        · have h2' : ieq (celI (bl b) (0 + elOff ((i : Nat) : Int) 1 + 0)) 1 = true := h2
          rw [v1] at h2'
          have hb1 : bt b i = 1 := by simp only [ieq, beq_iff_eq] at h2'; omega
          refine ⟨⟨isB_bl (lt260 (hsm i hi')), isB_bl (lt260 ha2), Int.natCast_nonneg _, (by omega : ((i : Nat) : Int) ≤ 200)⟩, ?_⟩
          refine ⟨bl_arr _, ?_⟩
          refine ⟨⟨i + 1, by omega⟩, ⟨fun x => x, rfl, rfl, ⟨by kernel_rfl, by kernel_rfl, by kernel_rfl, by kernel_rfl, ?_, trivial⟩, ⟨by kernel_rfl, by kernel_rfl, by kernel_rfl, ?_, trivial⟩, rfl, rfl, rfl⟩, by simp; omega⟩
          · exact congrArg (fun q => some (SV.e (SE.c (SC.val (vi' q))))) e1
          · refine (show some (Atom.row 61 1 260 (bl (nl (bl (a * (b % 2 ^ i))) + nl (bl a) * 2 ^ ((i : Nat) : Int).toNat))) = some (Atom.row 61 1 260 (bl (a * (b % 2 ^ (i + 1))))) from ?_)
            rw [nl_bl (lt260 (hsm i hi')), nl_bl (lt260 ha2), Int.toNat_natCast, mod_step, hb1, Nat.one_mul, Nat.mul_add]
        · have h2' : ieq (celI (bl b) (0 + elOff ((i : Nat) : Int) 1 + 0)) 1 = false := h2
          rw [v1] at h2'
          have hb1 : bt b i = 0 := by simp [ieq] at h2'; omega
          refine ⟨⟨i + 1, by omega⟩, ⟨fun x => x, rfl, rfl, ⟨by kernel_rfl, by kernel_rfl, by kernel_rfl, by kernel_rfl, ?_, trivial⟩, ⟨by kernel_rfl, by kernel_rfl, by kernel_rfl, ?_, trivial⟩, rfl, rfl, rfl⟩, by simp; omega⟩
          · exact congrArg (fun q => some (SV.e (SE.c (SC.val (vi' q))))) e1
          · have e : a * (b % 2 ^ i) = a * (b % 2 ^ (i + 1)) := by rw [mod_step, hb1, Nat.zero_mul, Nat.add_zero]
            exact congrArg (fun q => some (Atom.row 61 1 260 (bl q))) e
      · have hin : i = 64 := by simp [ilt, vi'] at h1; omega
        subst hin
        have e : nl (bl (a * (b % 2 ^ 64))) = a * b := by
          rw [nl_bl (lt260 (hsm 64 hi')), Nat.mod_eq_of_lt (by rw [← p64_pow]; exact m2)]
        refine ⟨isB_bl (lt260 (hsm 64 hi')), ?_⟩
        exact ⟨rfl, congrArg (fun q => (ofN q).hi) e, rfl, congrArg (fun q => (ofN q).lo) e, trivial⟩
  · cases hp

def raddG : PureG := fun F vs => match vs with
  | [.e (.agg [.val (.int .u64 a), .val (.int .u64 b)]), .e (.agg [.val (.int .u64 c), .val (.int .u64 d)])] => some (.p (WfW ⟨a, b⟩ ∧ WfW ⟨c, d⟩), .tup [wv (ofN (nw ⟨a, b⟩ + nw ⟨c, d⟩)), .c (.val (.bool (ieq (celI (bl (nw ⟨a, b⟩ + nw ⟨c, d⟩)) 128) 0)))])
  | _ => none
theorem radd_ok : SpecOK Try.prog 40 (pureS raddG) := by
  refine pure_ok ⟨_, _, Try.func40, rfl, by kernel_rfl⟩ ?_
  intro F vs c v hp hc
  unfold raddG at hp
  split at hp
  · rename_i a0 a1 b0 b1
    cases hp
    obtain ⟨hc1, hc2⟩ := hc
    have hn := nw_lt hc1
    have hm := nw_lt hc2
    refine ⟨rfl, rfl, fun w hF => ?_⟩
    refine pure_calls (E := ⟨Ty, spc, fun k => w.heap[k]?, 17, []⟩) Try.func40 rfl mixed Ty_ok spc_ok rfl (by kernel_rfl) rfl rfl rfl ?_
    have hs : nw ⟨a0, a1⟩ + nw ⟨b0, b1⟩ < 2 ^ b260 := by
      have h1 : p64 * p64 + p64 * p64 = 2 ^ 129 := by decide
      have h2 : 2 ^ 129 < 2 ^ b260 := Nat.pow_lt_pow_right (by omega) (by unfold b260; omega)
      omega
    have e : nl (bl (nw ⟨a0, a1⟩)) + nl (bl (nw ⟨b0, b1⟩)) * 2 ^ (0 : Int).toNat = nw ⟨a0, a1⟩ + nw ⟨b0, b1⟩ := by
      rw [nl_bl (lt260 hn), nl_bl (lt260 hm)]
      simp
    refine ⟨hc1, ?_⟩
    refine ⟨hc2, ?_⟩
    refine ⟨⟨isB_bl (lt260 hn), isB_bl (lt260 hm), by decide, by decide⟩, ?_⟩
    refine ⟨bl_arr _, ?_⟩
    refine ⟨by kernel_rfl, ?_⟩
    refine ⟨(by rw [e]; exact isB_bl hs : IsB (bl (nl (bl (nw ⟨a0, a1⟩)) + nl (bl (nw ⟨b0, b1⟩)) * 2 ^ (0 : Int).toNat))), ?_⟩
    refine ⟨⟨by decide, by decide⟩, ?_⟩
    refine ⟨(bl_cells _ (i := 128) (by omega) : cCells (bl (nl (bl (nw ⟨a0, a1⟩)) + nl (bl (nw ⟨b0, b1⟩)) * 2 ^ (0 : Int).toNat)) (0 + elOff 128 1) [.int .i64 0]), ?_⟩
    have e2 : nl (bl (nl (bl (nw ⟨a0, a1⟩)) + nl (bl (nw ⟨b0, b1⟩)) * 2 ^ (0 : Int).toNat)) = nw ⟨a0, a1⟩ + nw ⟨b0, b1⟩ := by rw [e, nl_bl hs]
    exact ⟨by kernel_rfl, rfl, congrArg (fun q => (ofN q).hi) e2, rfl, congrArg (fun q => (ofN q).lo) e2, congrArg (fun q => ieq (celI (bl q) 128) 0) e, trivial⟩
  · cases hp

theorem xor_max {x : Int} (h0 : 0 ≤ x) (h1 : x < 18446744073709551616) : ixor .u64 18446744073709551615 x = 18446744073709551615 - x := by
  obtain ⟨n, rfl⟩ : ∃ n : Nat, x = n := ⟨x.toNat, by rw [Int.toNat_of_nonneg h0]⟩
  unfold ixor
  have e : (BitVec.ofInt 64 18446744073709551615 ^^^ BitVec.ofInt 64 (n : Int)).toNat = 18446744073709551615 - n := by
    have h2 : BitVec.ofInt 64 18446744073709551615 = BitVec.allOnes 64 := by decide
    rw [h2, BitVec.allOnes_xor, BitVec.toNat_not, BitVec.toNat_ofInt]
    have h3 : ((n : Int) % ((2 ^ 64 : Nat) : Int)).toNat = n := by omega
    rw [h3]
  show IntKind.wrap .u64 ((BitVec.ofInt 64 18446744073709551615 ^^^ BitVec.ofInt 64 (n : Int)).toNat : Int) = _
  rw [e, wrapu]
  unfold p64
  omega
theorem turned_wf {a b : Int} (h : WfW ⟨a, b⟩) : WfW ⟨ixor .u64 18446744073709551615 a, ixor .u64 18446744073709551615 b⟩ ∧ nw ⟨ixor .u64 18446744073709551615 a, ixor .u64 18446744073709551615 b⟩ + 1 = p64 * p64 - nw ⟨a, b⟩ := by
  have h0 := h.h0; have h1 := h.h1; have h2 := h.l0; have h3 := h.l1
  simp only at h0 h1 h2 h3
  rw [xor_max h0 h1, xor_max h2 h3]
  refine ⟨⟨by simp only; omega, by simp only; omega, by simp only; omega, by simp only; omega⟩, ?_⟩
  unfold nw p64
  simp only
  omega
def rsubG : PureG := fun F vs => match vs with
  | [.e (.agg [.val (.int .u64 a), .val (.int .u64 b)]), .e (.agg [.val (.int .u64 c), .val (.int .u64 d)])] => some (.p (WfW ⟨a, b⟩ ∧ WfW ⟨c, d⟩), .tup [wv (subW ⟨a, b⟩ ⟨c, d⟩), .c (.val (.bool (ile 0 (cmpN (nw ⟨a, b⟩) (nw ⟨c, d⟩)))))])
  | _ => none
theorem rsub_ok : SpecOK Try.prog 26 (pureS rsubG) := by
  refine pure_ok ⟨_, _, Try.func26, rfl, by kernel_rfl⟩ ?_
  intro F vs c v hp hc
  unfold rsubG at hp
  split at hp
  · rename_i a0 a1 b0 b1
    cases hp
    obtain ⟨hc1, hc2⟩ := hc
    have hn := nw_lt hc1
    have hm := nw_lt hc2
    obtain ⟨tw, ht⟩ := turned_wf hc2
    have hm' := nw_lt tw
    rw [sub_eq hc1 hc2]
    refine ⟨rfl, rfl, fun w hF => ?_⟩
    refine pure_calls (E := ⟨Ty, spc, fun k => w.heap[k]?, 31, []⟩) Try.func26 rfl mixed Ty_ok spc_ok rfl (by kernel_rfl) rfl rfl rfl ?_
    have two : p64 * p64 + p64 * p64 + p64 * p64 < 2 ^ b260 := by
      have h1 : p64 * p64 + p64 * p64 + p64 * p64 < 2 ^ 130 := by decide
      have h2 : 2 ^ 130 < 2 ^ b260 := Nat.pow_lt_pow_right (by omega) (by unfold b260; omega)
      omega
    have hpp : 1 < p64 * p64 := by decide
    obtain ⟨n, hnn⟩ : ∃ n, nw ⟨a0, a1⟩ = n := ⟨_, rfl⟩
    obtain ⟨m, hmm⟩ : ∃ m, nw ⟨ixor .u64 18446744073709551615 b0, ixor .u64 18446744073709551615 b1⟩ = m := ⟨_, rfl⟩
    have w1 : WfW ⟨0, 1⟩ := ⟨by decide, by decide, by decide, by decide⟩
    have n1 : nw ⟨0, 1⟩ = 1 := by decide
    have q1 : nl (bl (nw ⟨a0, a1⟩)) + nl (bl (nw ⟨ixor .u64 18446744073709551615 b0, ixor .u64 18446744073709551615 b1⟩)) * 2 ^ (0 : Int).toNat = n + m := by
      rw [nl_bl (lt260 hn), nl_bl (lt260 hm'), hnn, hmm]
      simp
    rw [hnn] at hn
    rw [hmm] at hm' ht
    have q2 : nl (bl (nl (bl (nw ⟨a0, a1⟩)) + nl (bl (nw ⟨ixor .u64 18446744073709551615 b0, ixor .u64 18446744073709551615 b1⟩)) * 2 ^ (0 : Int).toNat)) + nl (bl (nw ⟨0, 1⟩)) * 2 ^ (0 : Int).toNat = n + m + 1 := by
      rw [q1, nl_bl (show n + m < 2 ^ b260 by omega), n1, nl_bl (show 1 < 2 ^ b260 by omega)]
      simp
    have b1' : IsB (bl (nw ⟨a0, a1⟩)) := isB_bl (by rw [hnn]; omega)
    have b2' : IsB (bl (nw ⟨ixor .u64 18446744073709551615 b0, ixor .u64 18446744073709551615 b1⟩)) := isB_bl (by rw [hmm]; omega)
    refine ⟨hc1, ?_⟩
    refine ⟨tw, ?_⟩
    refine ⟨⟨b1', b2', by decide, by decide⟩, ?_⟩
    refine ⟨bl_arr _, ?_⟩
    refine ⟨by kernel_rfl, ?_⟩
    refine ⟨w1, ?_⟩
    refine ⟨bl_arr _, ?_⟩
    refine ⟨⟨(by rw [q1]; exact isB_bl (by omega) : IsB (bl (nl (bl (nw ⟨a0, a1⟩)) + nl (bl (nw ⟨ixor .u64 18446744073709551615 b0, ixor .u64 18446744073709551615 b1⟩)) * 2 ^ (0 : Int).toNat))), (by rw [n1]; exact isB_bl (by omega) : IsB (bl (nw ⟨0, 1⟩))), by decide, by decide⟩, ?_⟩
    refine ⟨(by rw [q2]; exact isB_bl (by omega) : IsB (bl (nl (bl (nl (bl (nw ⟨a0, a1⟩)) + nl (bl (nw ⟨ixor .u64 18446744073709551615 b0, ixor .u64 18446744073709551615 b1⟩)) * 2 ^ (0 : Int).toNat)) + nl (bl (nw ⟨0, 1⟩)) * 2 ^ (0 : Int).toNat))), ?_⟩
    refine ⟨⟨hc1, hc2⟩, ?_⟩
    have e2 : nl (bl (nl (bl (nl (bl (nw ⟨a0, a1⟩)) + nl (bl (nw ⟨ixor .u64 18446744073709551615 b0, ixor .u64 18446744073709551615 b1⟩)) * 2 ^ (0 : Int).toNat)) + nl (bl (nw ⟨0, 1⟩)) * 2 ^ (0 : Int).toNat)) = nw ⟨a0, a1⟩ + (p64 * p64 - nw ⟨b0, b1⟩) := by
      rw [q2, nl_bl (show n + m + 1 < 2 ^ b260 by omega), hnn, ← ht]
      omega
    exact ⟨by kernel_rfl, rfl, congrArg (fun q => (ofN q).hi) e2, rfl, congrArg (fun q => (ofN q).lo) e2, rfl, trivial⟩
  · cases hp
end Go.Proofs.Ytemoagpahhdoeaa
