/- Whether fates may be: the program's check and the document's. No condition. -/
import Derived.Test.YtpjceimjhbmjnaaV2
namespace Go.Proofs.Ytpjceimjhbmjnaa
open Go.Sy
set_option linter.unusedSimpArgs false
set_option linter.unusedVariables false
set_option maxRecDepth 100000

@[irreducible] def chkI (first : Int) (l : List (Int × Int)) : Int := if okF first l then 0 else 270
def mps (l : List (Int × Int)) : Nat → List (Int × Bool)
  | 0 => []
  | i + 1 => mput (mps l i) (fnm l i) true
theorem mps_lk (l : List (Int × Int)) (x : Int) : ∀ i, mlk (mps l i) x = (List.range i).any fun k => fnm l k == x
  | 0 => rfl
  | i + 1 => by
    rw [mps, mlk_mput, mps_lk l x i, List.range_succ, List.any_append]
    by_cases h : fnm l i = x <;> simp [h]
def chkSt (first : Int) (A : Option Addr) (n c : Nat) (l : List (Int × Int)) (i : Nat) : SS :=
  ⟨[(1, .e (.c (.ptr 1 0))), (3, .e (.c (.mp 15))), (17, sval (.slice A n c)), (18, sval (vi n)), (19, sval (vi i))],
   [(1, .blk 25 [.val (vu first), .val (.slice A n c)]), (15, .mpb .u64 (mps l i))], []⟩
def chkG : PureG := fun F vs => match vs with
  | [.e (.agg [.val (.int .u64 first), .val (.slice A n _)])] => some (.p (FatesF F A n), sval (vi (chkI first (fatesOf F A n))))
  | _ => none
theorem chk_ok : SpecOK Try.prog 9 (pureS chkG) := by
  refine pure_ok ⟨_, _, Try.func9, rfl, by kernel_rfl⟩ ?_
  intro F vs c v hp hc
  unfold chkG at hp
  split at hp
  · rename_i first A n cap
    cases hp
    refine ⟨rfl, rfl, fun w hF => ?_⟩
    obtain ⟨hK, heq⟩ := fates_mono hF hc
    rw [← heq]
    obtain ⟨l, hl⟩ : ∃ l, fatesOf (fun k => w.heap[k]?) A n = l := ⟨_, rfl⟩
    have hlen : l.length = n := by rw [← hl]; exact fatesOf_len _ A n
    have hwf : WfL l := by rw [← hl]; exact fates_wf hK
    have hat : ∀ i, i < n → AtF (fun k => w.heap[k]?) A n i l := fun i hi => by rw [← hl]; exact at_fates hK hi
    rw [hl]
    have no : ∀ i, i < n → okAtB first l i = false → (270 : Int) = chkI first l := fun i hi h => by simp [chkI, okF_no (by omega) h]
    refine pure_calls (E := ⟨Ty, (fun _ => none), fun k => w.heap[k]?, 60, []⟩) Try.func9 rfl mixed Ty_ok (specs_nil _) rfl (by kernel_rfl) rfl rfl rfl ?_
    refine ⟨fun h1 => ?_, fun h1 => ?_⟩
    · have : okF first l = false := by simp [ilt] at h1; simp [okF]; omega
      exact ⟨rfl, by simp [chkI, this], trivial⟩
    refine ⟨fun h2 => ?_, fun h2 => ?_⟩
    · have : okF first l = false := by simp [ilt] at h2; simp [okF, hlen]; omega
      exact ⟨rfl, by simp [chkI, this], trivial⟩
    have g1 : 1 ≤ first := by simp [ilt] at h1; omega
    have g2 : n ≤ 256 := by simp [ilt] at h2; omega
    refine ⟨{ i : Nat // i ≤ n ∧ ∀ j, j < i → okAtB first l j = true }, fun i => chkSt first A n cap l i.1, fun i => n - i.1, ⟨0, by omega, fun j hj => by omega⟩, ?_, ?_⟩
    · exact ⟨fun x => x, rfl, rfl, ⟨by kernel_rfl, by kernel_rfl, by kernel_rfl, by kernel_rfl, by kernel_rfl, trivial⟩, ⟨by kernel_rfl, by kernel_rfl, trivial⟩, rfl, rfl, rfl⟩
    · rintro ⟨i, hi, hok⟩
      refine ⟨fun h3 => ?_, fun h3 => ?_⟩
      · have hlt : i < n := by simp [ilt, vi] at h3; omega
        have at_ := hat i hlt
        refine ⟨at_.ix, ?_⟩
        refine ⟨at_.rd, ?_⟩
        refine ⟨fun h4 => ?_, fun h4 => ?_⟩
        · have h4' : ilt (fid l i) first = true := by rw [← at_.v0]; exact h4
          have hn : okAtB first l i = false := by simp [ilt] at h4'; simp [okAtB]; intro q; omega
          exact ⟨by kernel_rfl, rfl, no i hlt hn, trivial⟩
        have h4' : ilt (fid l i) first = false := by rw [← at_.v0]; exact h4
        have f1 : first ≤ fid l i := by simp [ilt] at h4'; exact h4'
        have e1 := step63 hlt (by omega)
        have wf := hwf i
        -- whatever stands ahead: the numbers
        have tail : ∀ (_ : i = 0 ∨ fid l (i - 1) < fid l i), (ilt 0 (fnm l i) = true → mlk (mps l i) (fnm l i) = true → okAtB first l i = false) ∧ ((ilt 0 (fnm l i) = true → mlk (mps l i) (fnm l i) = false) → okAtB first l i = true) := by
          intro hf
          have hnn : 0 ≤ fnm l i := wf.2.2.1
          rw [mps_lk]
          constructor
          · intro q1 q2
            simp only [ilt, decide_eq_true_eq] at q1
            have : (fnm l i == 0) = false := by simp; omega
            simp only [okAtB, this, q2]
            simp
          · intro q
            have hz : (fnm l i == 0 || !(List.range i).any fun k => fnm l k == fnm l i) = true := by
              by_cases h0 : fnm l i = 0
              · simp [h0]
              · have : ilt 0 (fnm l i) = true := by simp [ilt]; omega
                rw [q this]; simp
            have hy : (i == 0 || decide (fid l (i - 1) < fid l i)) = true := by
              rcases hf with h | h <;> simp [h]
            simp only [okAtB, hz, hy, f1, decide_true, Bool.and_self]
        have more : ∀ j, j < i + 1 → okAtB first l i = true → okAtB first l j = true := fun j hj h => by
          by_cases e : j = i
          · rw [e]; exact h
          · exact hok j (by omega)
        refine ⟨fun h5 => ?_, fun h5 => ?_⟩
        · have hpos : 0 < i := by simp [ilt, vi] at h5; omega
          obtain ⟨i', rfl⟩ : ∃ i', i = i' + 1 := ⟨i - 1, by omega⟩
          have e2 := sub63 (k := i') (by omega)
          have at2 := hat i' (by omega)
          refine ⟨(by rw [e2]; exact at2.ix : cIdx A n (isub .i64 ((i' + 1 : Nat) : Int) 1)), ?_⟩
          refine ⟨(by rw [e2]; exact at2.r0 : cRead (fun k => w.heap[k]?) ((elAt A (isub .i64 ((i' + 1 : Nat) : Int) 1) 2).add 0) z1), ?_⟩
          refine ⟨fun h6 => ?_, fun h6 => ?_⟩
          · have h6' : ile (Hp.int (fun k => w.heap[k]?) ((elAt A ((i' + 1 : Nat) : Int) 2).add 0)) (Hp.int (fun k => w.heap[k]?) (((elAt A (isub .i64 ((i' + 1 : Nat) : Int) 1) 2).add 0).add 0)) = true := h6
            rw [e2, at2.w0, at_.v0] at h6'
            have hn : okAtB first l (i' + 1) = false := by simp [ile] at h6'; simp [okAtB]; intro q1 q2; omega
            exact ⟨by kernel_rfl, rfl, no _ hlt hn, trivial⟩
          · have h6' : ile (Hp.int (fun k => w.heap[k]?) ((elAt A ((i' + 1 : Nat) : Int) 2).add 0)) (Hp.int (fun k => w.heap[k]?) (((elAt A (isub .i64 ((i' + 1 : Nat) : Int) 1) 2).add 0).add 0)) = false := h6
            rw [e2, at2.w0, at_.v0] at h6'
            have hf : (i' + 1) = 0 ∨ fid l (i' + 1 - 1) < fid l (i' + 1) := .inr (by simp [ile] at h6'; simpa using h6')
            obtain ⟨t1, t2⟩ := tail hf
            refine ⟨fun h7 => ?_, fun h7 => ?_⟩
            · have h7' : ilt 0 (fnm l (i' + 1)) = true := by rw [← at_.v1]; exact h7
              refine ⟨by kernel_rfl, fun h8 => ?_, fun h8 => ?_⟩
              · have h8' : mlk (mps l (i' + 1)) (fnm l (i' + 1)) = true := by rw [← at_.v1]; exact h8
                exact ⟨rfl, no _ hlt (t1 h7' h8'), trivial⟩
              · have h8' : mlk (mps l (i' + 1)) (fnm l (i' + 1)) = false := by rw [← at_.v1]; exact h8
                refine ⟨⟨i' + 1 + 1, by omega, fun j hj => more j hj (t2 fun _ => h8')⟩, ⟨fun x => x, rfl, rfl, ⟨by kernel_rfl, by kernel_rfl, by kernel_rfl, by kernel_rfl, ?_, trivial⟩, ⟨by kernel_rfl, ?_, trivial⟩, rfl, rfl, rfl⟩, by simp; omega⟩
                · exact congrArg (fun q => some (sval (vi q))) e1
                · exact congrArg (fun q => some (Atom.mpb .u64 (mput (mps l (i' + 1)) q true))) at_.v1
            · have h7' : ilt 0 (fnm l (i' + 1)) = false := by rw [← at_.v1]; exact h7
              refine ⟨by kernel_rfl, ⟨i' + 1 + 1, by omega, fun j hj => more j hj (t2 fun q => by rw [h7'] at q; cases q)⟩, ⟨fun x => x, rfl, rfl, ⟨by kernel_rfl, by kernel_rfl, by kernel_rfl, by kernel_rfl, ?_, trivial⟩, ⟨by kernel_rfl, ?_, trivial⟩, rfl, rfl, rfl⟩, by simp; omega⟩
              · exact congrArg (fun q => some (sval (vi q))) e1
              · exact congrArg (fun q => some (Atom.mpb .u64 (mput (mps l (i' + 1)) q true))) at_.v1
        · have h0 : i = 0 := by simp [ilt, vi] at h5; omega
          obtain ⟨t1, t2⟩ := tail (.inl h0)
          refine ⟨fun h7 => ?_, fun h7 => ?_⟩
          · have h7' : ilt 0 (fnm l i) = true := by rw [← at_.v1]; exact h7
            refine ⟨by kernel_rfl, fun h8 => ?_, fun h8 => ?_⟩
            · have h8' : mlk (mps l i) (fnm l i) = true := by rw [← at_.v1]; exact h8
              exact ⟨rfl, no _ hlt (t1 h7' h8'), trivial⟩
            · have h8' : mlk (mps l i) (fnm l i) = false := by rw [← at_.v1]; exact h8
              refine ⟨⟨i + 1, by omega, fun j hj => more j hj (t2 fun _ => h8')⟩, ⟨fun x => x, rfl, rfl, ⟨by kernel_rfl, by kernel_rfl, by kernel_rfl, by kernel_rfl, ?_, trivial⟩, ⟨by kernel_rfl, ?_, trivial⟩, rfl, rfl, rfl⟩, by simp; omega⟩
              · exact congrArg (fun q => some (sval (vi q))) e1
              · exact congrArg (fun q => some (Atom.mpb .u64 (mput (mps l i) q true))) at_.v1
          · have h7' : ilt 0 (fnm l i) = false := by rw [← at_.v1]; exact h7
            refine ⟨by kernel_rfl, ⟨i + 1, by omega, fun j hj => more j hj (t2 fun q => by rw [h7'] at q; cases q)⟩, ⟨fun x => x, rfl, rfl, ⟨by kernel_rfl, by kernel_rfl, by kernel_rfl, by kernel_rfl, ?_, trivial⟩, ⟨by kernel_rfl, ?_, trivial⟩, rfl, rfl, rfl⟩, by simp; omega⟩
            · exact congrArg (fun q => some (sval (vi q))) e1
            · exact congrArg (fun q => some (Atom.mpb .u64 (mput (mps l i) q true))) at_.v1
      · have hin : i = n := by simp [ilt, vi] at h3; omega
        subst hin
        have : okF first l = true := okF_iff.2 ⟨g1, by omega, fun j hj => hok j (by omega)⟩
        exact ⟨rfl, by simp [chkI, this], trivial⟩
  · cases hp
end Go.Proofs.Ytpjceimjhbmjnaa
