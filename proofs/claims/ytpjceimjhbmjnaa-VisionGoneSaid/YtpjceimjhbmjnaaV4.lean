/- The document's fates: which may be, and what became of a transaction. No condition. -/
import Derived.Test.YtpjceimjhbmjnaaV3
namespace Go.Proofs.Ytpjceimjhbmjnaa
open Go.Sy
set_option linter.unusedSimpArgs false
set_option linter.unusedVariables false
set_option maxRecDepth 100000

theorem okAt_iff {first : Int} {l : List (Int × Int)} {i : Nat} : okAtB first l i = true ↔ first ≤ fid l i ∧ (i = 0 ∨ fid l (i - 1) < fid l i) ∧ ∀ k, k < i → fnm l i ≠ 0 → fnm l k ≠ fnm l i := by
  simp only [okAtB, Bool.and_eq_true, Bool.or_eq_true, decide_eq_true_eq, beq_iff_eq, Bool.not_eq_true', and_assoc]
  constructor
  · rintro ⟨h1, h2, h3⟩
    refine ⟨h1, h2, fun k hk h0 he => ?_⟩
    rcases h3 with h3 | h3
    · exact h0 h3
    · rw [List.any_eq_false] at h3
      exact h3 k (List.mem_range.2 hk) (by simp [he])
  · rintro ⟨h1, h2, h3⟩
    refine ⟨h1, h2, ?_⟩
    by_cases h0 : fnm l i = 0
    · exact .inl h0
    · refine .inr (List.any_eq_false.2 (fun k hk => ?_))
      simpa using h3 k (List.mem_range.1 hk) h0

def rightSt1 (first : Int) (A : Option Addr) (n c : Nat) (i : Nat) : SS :=
  ⟨[(1, .e (.c (.ptr 1 0))), (3, sval (vi i))], [(1, .blk 25 [.val (vu first), .val (.slice A n c)])], []⟩
def rightSt2 (first : Int) (A : Option Addr) (n c : Nat) (l : List (Int × Int)) (i k : Nat) : SS :=
  ⟨[(1, .e (.c (.ptr 1 0))), (3, sval (vi i)), (4, .e (.c (.ptr 4 0))), (5, sval (vi k))], [(1, .blk 25 [.val (vu first), .val (.slice A n c)]), (4, .blk 44 [.val (vu (fid l i)), .val (vu (fnm l i))])], []⟩
def rightG : PureG := fun F vs => match vs with
  | [.e (.agg [.val (.int .u64 first), .val (.slice A n _)])] => some (.p (0 ≤ first ∧ FatesF F A n), sval (.bool (okF first (fatesOf F A n))))
  | _ => none
theorem right_ok : SpecOK Try.prog 12 (pureS rightG) := by
  refine pure_ok ⟨_, _, Try.func12, rfl, by kernel_rfl⟩ ?_
  intro F vs c v hp hc
  unfold rightG at hp
  split at hp
  · rename_i first A n cap
    cases hp
    refine ⟨rfl, rfl, fun w hF => ?_⟩
    obtain ⟨hf0, hc⟩ := hc
    obtain ⟨hK, heq⟩ := fates_mono hF hc
    rw [← heq]
    obtain ⟨l, hl⟩ : ∃ l, fatesOf (fun k => w.heap[k]?) A n = l := ⟨_, rfl⟩
    have hlen : l.length = n := by rw [← hl]; exact fatesOf_len _ A n
    have hat : ∀ i, i < n → AtF (fun k => w.heap[k]?) A n i l := fun i hi => by rw [← hl]; exact at_fates hK hi
    rw [hl]
    have no : ∀ i, i < n → okAtB first l i = false → false = okF first l := fun i hi h => (okF_no (by omega) h).symm
    refine pure_calls (E := ⟨Ty, (fun _ => none), fun k => w.heap[k]?, 67, []⟩) Try.func12 rfl mixed Ty_ok (specs_nil _) rfl (by kernel_rfl) rfl rfl rfl ?_
    refine ⟨fun h1 => ?_, fun h1 => ?_⟩
    · have : okF first l = false := by simp [ieq] at h1; simp [okF]; omega
      exact ⟨this.symm, trivial⟩
    refine ⟨fun h2 => ?_, fun h2 => ?_⟩
    · have : okF first l = false := by simp [ilt] at h2; simp [okF, hlen]; omega
      exact ⟨this.symm, trivial⟩
    have g1 : first ≠ 0 := by simp [ieq] at h1; exact h1
    have g2 : n ≤ 256 := by simp [ilt] at h2; omega
    refine ⟨{ i : Nat // i ≤ n ∧ ∀ j, j < i → okAtB first l j = true }, fun i => rightSt1 first A n cap i.1, fun i => n - i.1, ⟨0, by omega, fun j hj => by omega⟩, ?_, ?_⟩
    · exact ⟨fun x => x, rfl, rfl, ⟨by kernel_rfl, by kernel_rfl, trivial⟩, ⟨by kernel_rfl, trivial⟩, rfl, rfl, rfl⟩
    · rintro ⟨i, hi, hok⟩
      refine ⟨fun h3 => ?_, fun h3 => ?_⟩
      · have hlt : i < n := by simp [ilt, vi] at h3; omega
        have at_ := hat i hlt
        have e1 := step63 hlt (by omega)
        refine ⟨at_.ix, ?_⟩
        refine ⟨at_.rd, ?_⟩
        refine ⟨fun h4 => ?_, fun h4 => ?_⟩
        · have h4' : ilt (fid l i) first = true := by rw [← at_.v0]; exact h4
          have hn : okAtB first l i = false := by
            rw [← Bool.not_eq_true, okAt_iff]; simp [ilt] at h4'; omega
          exact ⟨by kernel_rfl, no i hlt hn, trivial⟩
        have h4' : ilt (fid l i) first = false := by rw [← at_.v0]; exact h4
        have f1 : first ≤ fid l i := by simp [ilt] at h4'; exact h4'
        refine ⟨fun h5 => ?_, fun h5 => ?_⟩
        · have hpos : 0 < i := by simp [ilt, vi] at h5; omega
          obtain ⟨i', rfl⟩ : ∃ i', i = i' + 1 := ⟨i - 1, by omega⟩
          have e2 := sub63 (k := i') (by omega)
          have at2 := hat i' (by omega)
          refine ⟨(by rw [e2]; exact at2.ix : cIdx A n (isub .i64 ((i' + 1 : Nat) : Int) 1)), ?_⟩
          refine ⟨(by rw [e2]; exact at2.r0 : cRead (fun k => w.heap[k]?) ((elAt A (isub .i64 ((i' + 1 : Nat) : Int) 1) 2).add 0) z1), ?_⟩
          refine ⟨by kernel_rfl, fun h6 => ?_, fun h6 => ?_⟩
          · have h6' : ile (Hp.int (fun k => w.heap[k]?) ((elAt A ((i' + 1 : Nat) : Int) 2).add 0)) (Hp.int (fun k => w.heap[k]?) (((elAt A (isub .i64 ((i' + 1 : Nat) : Int) 1) 2).add 0).add 0)) = true := h6
            rw [e2, at2.w0, at_.v0] at h6'
            have hn : okAtB first l (i' + 1) = false := by
              rw [← Bool.not_eq_true, okAt_iff]; simp [ile] at h6'; simp; omega
            exact ⟨no _ hlt hn, trivial⟩
          · have h6' : ile (Hp.int (fun k => w.heap[k]?) ((elAt A ((i' + 1 : Nat) : Int) 2).add 0)) (Hp.int (fun k => w.heap[k]?) (((elAt A (isub .i64 ((i' + 1 : Nat) : Int) 1) 2).add 0).add 0)) = false := h6
            rw [e2, at2.w0, at_.v0] at h6'
            have hf : (i' + 1) = 0 ∨ fid l (i' + 1 - 1) < fid l (i' + 1) := .inr (by simp [ile] at h6'; simpa using h6')
            refine ⟨{ k : Nat // k ≤ i' + 1 ∧ ∀ j, j < k → fnm l (i' + 1) ≠ 0 → fnm l j ≠ fnm l (i' + 1) }, fun k => rightSt2 first A n cap l (i' + 1) k.1, fun k => i' + 1 - k.1, ⟨0, by omega, fun j hj => by omega⟩, ?_, ?_⟩
            · refine ⟨fun x => x, rfl, rfl, ⟨by kernel_rfl, by kernel_rfl, by kernel_rfl, by kernel_rfl, trivial⟩, ⟨by kernel_rfl, ?_, trivial⟩, rfl, rfl, rfl⟩
              exact (show some (Atom.blk 44 [.val (vu (Hp.int (fun k => w.heap[k]?) ((elAt A ((i' + 1 : Nat) : Int) 2).add 0))), .val (vu (Hp.int (fun k => w.heap[k]?) ((elAt A ((i' + 1 : Nat) : Int) 2).add 1)))]) = some (.blk 44 [.val (vu (fid l (i' + 1))), .val (vu (fnm l (i' + 1)))]) from by rw [at_.v0, at_.v1])
            · rintro ⟨k, hk, hno⟩
              refine ⟨fun k1 => ?_, fun k1 => ?_⟩
              · have klt : k < i' + 1 := by simp [ilt, vi] at k1; omega
                have e3 := step63 klt (by omega)
                have at_k := hat k (by omega)
                refine ⟨fun k2 => ?_, fun k2 => ?_⟩
                · have k2' : fnm l (i' + 1) ≠ 0 := by simpa [ine] using k2
                  refine ⟨at_k.ix, ?_⟩
                  refine ⟨at_k.r1, ?_⟩
                  refine ⟨by kernel_rfl, fun k3 => ?_, fun k3 => ?_⟩
                  · have k3' : ieq (Hp.int (fun k => w.heap[k]?) (((elAt A ((k : Nat) : Int) 2).add 1).add 0)) (fnm l (i' + 1)) = true := k3
                    rw [at_k.w1] at k3'
                    have hn : okAtB first l (i' + 1) = false := by
                      rw [← Bool.not_eq_true, okAt_iff]
                      rintro ⟨_, _, q⟩
                      exact q k klt k2' (by simpa [ieq] using k3')
                    exact ⟨no _ hlt hn, trivial⟩
                  · have k3' : ieq (Hp.int (fun k => w.heap[k]?) (((elAt A ((k : Nat) : Int) 2).add 1).add 0)) (fnm l (i' + 1)) = false := k3
                    rw [at_k.w1] at k3'
                    refine ⟨⟨k + 1, by omega, fun j hj h0 => ?_⟩, ⟨fun x => x, rfl, rfl, ⟨by kernel_rfl, by kernel_rfl, by kernel_rfl, ?_, trivial⟩, ⟨by kernel_rfl, by kernel_rfl, trivial⟩, rfl, rfl, rfl⟩, by simp; omega⟩
                    · by_cases e : j = k
                      · rw [e]; simpa [ieq] using k3'
                      · exact hno j (by omega) h0
                    · exact congrArg (fun q => some (sval (vi q))) e3
                · have k2' : fnm l (i' + 1) = 0 := by simpa [ine] using k2
                  refine ⟨by kernel_rfl, ⟨k + 1, by omega, fun j hj h0 => (h0 k2').elim⟩, ⟨fun x => x, rfl, rfl, ⟨by kernel_rfl, by kernel_rfl, by kernel_rfl, ?_, trivial⟩, ⟨by kernel_rfl, by kernel_rfl, trivial⟩, rfl, rfl, rfl⟩, by simp; omega⟩
                  exact congrArg (fun q => some (sval (vi q))) e3
              · have hk2 : k = i' + 1 := by simp [ilt, vi] at k1; omega
                have hn : okAtB first l (i' + 1) = true := okAt_iff.2 ⟨f1, hf, fun j hj h0 => hno j (by omega) h0⟩
                refine ⟨⟨i' + 1 + 1, by omega, fun j hj => ?_⟩, ⟨fun x => x, rfl, rfl, ⟨by kernel_rfl, ?_, trivial⟩, ⟨by kernel_rfl, trivial⟩, rfl, rfl, rfl⟩, by simp; omega⟩
                · by_cases e : j = i' + 1
                  · rw [e]; exact hn
                  · exact hok j (by omega)
                · exact congrArg (fun q => some (sval (vi q))) e1
        · have h0 : i = 0 := by simp [ilt, vi] at h5; omega
          have hf : i = 0 ∨ fid l (i - 1) < fid l i := .inl h0
          refine ⟨by kernel_rfl, ?_⟩
          refine ⟨{ k : Nat // k ≤ i ∧ ∀ j, j < k → fnm l (i) ≠ 0 → fnm l j ≠ fnm l (i) }, fun k => rightSt2 first A n cap l (i) k.1, fun k => i - k.1, ⟨0, by omega, fun j hj => by omega⟩, ?_, ?_⟩
          · refine ⟨fun x => x, rfl, rfl, ⟨by kernel_rfl, by kernel_rfl, by kernel_rfl, by kernel_rfl, trivial⟩, ⟨by kernel_rfl, ?_, trivial⟩, rfl, rfl, rfl⟩
            exact (show some (Atom.blk 44 [.val (vu (Hp.int (fun k => w.heap[k]?) ((elAt A ((i : Nat) : Int) 2).add 0))), .val (vu (Hp.int (fun k => w.heap[k]?) ((elAt A ((i : Nat) : Int) 2).add 1)))]) = some (.blk 44 [.val (vu (fid l (i))), .val (vu (fnm l (i)))]) from by rw [at_.v0, at_.v1])
          · rintro ⟨k, hk, hno⟩
            refine ⟨fun k1 => ?_, fun k1 => ?_⟩
            · have klt : k < i := by simp [ilt, vi] at k1; omega
              have e3 := step63 klt (by omega)
              have at_k := hat k (by omega)
              refine ⟨fun k2 => ?_, fun k2 => ?_⟩
              · have k2' : fnm l (i) ≠ 0 := by simpa [ine] using k2
                refine ⟨at_k.ix, ?_⟩
                refine ⟨at_k.r1, ?_⟩
                refine ⟨by kernel_rfl, fun k3 => ?_, fun k3 => ?_⟩
                · have k3' : ieq (Hp.int (fun k => w.heap[k]?) (((elAt A ((k : Nat) : Int) 2).add 1).add 0)) (fnm l (i)) = true := k3
                  rw [at_k.w1] at k3'
                  have hn : okAtB first l (i) = false := by
                    rw [← Bool.not_eq_true, okAt_iff]
                    rintro ⟨_, _, q⟩
                    exact q k klt k2' (by simpa [ieq] using k3')
                  exact ⟨no _ hlt hn, trivial⟩
                · have k3' : ieq (Hp.int (fun k => w.heap[k]?) (((elAt A ((k : Nat) : Int) 2).add 1).add 0)) (fnm l (i)) = false := k3
                  rw [at_k.w1] at k3'
                  refine ⟨⟨k + 1, by omega, fun j hj h0 => ?_⟩, ⟨fun x => x, rfl, rfl, ⟨by kernel_rfl, by kernel_rfl, by kernel_rfl, ?_, trivial⟩, ⟨by kernel_rfl, by kernel_rfl, trivial⟩, rfl, rfl, rfl⟩, by simp; omega⟩
                  · by_cases e : j = k
                    · rw [e]; simpa [ieq] using k3'
                    · exact hno j (by omega) h0
                  · exact congrArg (fun q => some (sval (vi q))) e3
              · have k2' : fnm l (i) = 0 := by simpa [ine] using k2
                refine ⟨by kernel_rfl, ⟨k + 1, by omega, fun j hj h0 => (h0 k2').elim⟩, ⟨fun x => x, rfl, rfl, ⟨by kernel_rfl, by kernel_rfl, by kernel_rfl, ?_, trivial⟩, ⟨by kernel_rfl, by kernel_rfl, trivial⟩, rfl, rfl, rfl⟩, by simp; omega⟩
                exact congrArg (fun q => some (sval (vi q))) e3
            · have hk2 : k = i := by simp [ilt, vi] at k1; omega
              have hn : okAtB first l (i) = true := okAt_iff.2 ⟨f1, hf, fun j hj h0 => hno j (by omega) h0⟩
              refine ⟨⟨i + 1, by omega, fun j hj => ?_⟩, ⟨fun x => x, rfl, rfl, ⟨by kernel_rfl, ?_, trivial⟩, ⟨by kernel_rfl, trivial⟩, rfl, rfl, rfl⟩, by simp; omega⟩
              · by_cases e : j = i
                · rw [e]; exact hn
                · exact hok j (by omega)
              · exact congrArg (fun q => some (sval (vi q))) e1
      · have hin : i = n := by simp [ilt, vi] at h3; omega
        subst hin
        exact ⟨(okF_iff.2 ⟨by omega, by omega, fun j hj => hok j (by omega)⟩).symm, trivial⟩
  · cases hp
end Go.Proofs.Ytpjceimjhbmjnaa
