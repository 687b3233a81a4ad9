/- VisionGone, walked. No condition. -/
import Derived.Test.YtpjceimjhbmjnaaVb
namespace Go.Proofs.Ytpjceimjhbmjnaa
open Go.Sy
open Go.RowKit (Below)
set_option linter.unusedSimpArgs false
set_option linter.unusedVariables false
set_option maxRecDepth 100000

section
open Go.ChangeShapes Go.WideShapes Go.ChangeAt Go.RowKit Go.Joins Go.Deep
theorem open_two {H : Type} {enc : TypeId × Value → H} {W : World} {base : Nat} {spare : Nat → Bool} {held : Bool} {r : Reach} {b0 : Nat} {v : Value} {d : DataW H} {p : List MemPlace} (hv : Value.okWide Try.prog W r b0 49 v) (h : DataW.Trod enc Try.prog W base spare held 49 v d p) :
    ∃ a b : Int, v = .agg #[vu a, vu b] := by
  simp only [Value.okWide, Try.underlying49] at hv
  obtain ⟨cs, rfl, hsz, _⟩ := hv
  obtain ⟨c0, c1, rfl⟩ := array2 (hsz.trans cells49)
  obtain ⟨fuel, hf⟩ := h
  obtain ⟨xs, m, _, _, _, hlen, hall⟩ := DataW.trod_array Try.underlying49 hf
  match xs, hlen with
  | [y0, y1], _ =>
    have h0 : DataW.trod enc Try.prog W base spare held m 22 (List.take (Try.prog.cellsOf 22) (List.drop (0 * Try.prog.cellsOf 22) [c0, c1])) = some y0 := hall 0 (by omega)
    have h1 : DataW.trod enc Try.prog W base spare held m 22 (List.take (Try.prog.cellsOf 22) (List.drop (1 * Try.prog.cellsOf 22) [c0, c1])) = some y1 := hall 1 (by omega)
    simp only [cells22] at h0 h1
    obtain ⟨a0, e0, _⟩ := DataW.trod_int Try.underlying22 h0
    obtain ⟨a1, e1, _⟩ := DataW.trod_int Try.underlying22 h1
    simp at e0 e1
    subst e0 e1
    exact ⟨a0, a1, rfl⟩
end

theorem dead_unseen {h snap first : Int} {l : List (Int × Int)} {t : Tup} (hle : h ≤ snap) (hd : deadB h first l t = true) : seeB ⟨0, true, snap⟩ first l t = false ∧ ∀ own, own ≠ t.a → seeB ⟨own, false, 0⟩ first l t = false := by
  simp only [deadB, Bool.or_eq_true, Bool.and_eq_true, Bool.not_eq_true'] at hd
  rcases hd with ⟨h1, h2⟩ | ⟨h1, h2⟩
  · refine ⟨by simp [seeB, cnt, h1], fun own ho => ?_⟩
    have : ieq t.a own = false := by simp [ieq]; exact fun q => ho q.symm
    simp [seeB, cnt, h1, this]
  · have h3 : ile (fateN first l t.b) snap = true := by
      simp only [ile, decide_eq_true_eq] at h2 ⊢
      omega
    refine ⟨by simp [seeB, cnt, h1, h3], fun own ho => by simp [seeB, cnt, h1]⟩
theorem mn_mx (a b : Int) : mn a b ≤ mx a b := by unfold mn mx; split <;> split <;> omega
theorem own_ne {a : Int} (h0 : 0 ≤ a) (h : a ≤ 4294967295) : iadd .u64 a 1 ≠ a := by
  unfold iadd IntKind.wrap
  simp [IntKind.bits, IntKind.signed]
  omega

theorem lawGone (w : World) (first : Int) (A : Option Addr) (n cap : Nat) (z1 z2 : Int) (t : Tup) (hK : FatesF (fun k => w.heap[k]?) A n) (hf : 0 ≤ first) (ht : TupW t) :
    Calls Try.prog 7 #[fatesVal first A n cap, .agg #[vu z1, vu z2], tupVal t] w fun e w' => e = .returned (.bool true) ∧ Below w.heap.size w w' := by
  refine pure_calls (vs := [fatesSE first A n cap, .e (.agg [.val (vu z1), .val (vu z2)]), .e (tupS t)]) (v := sval (.bool true)) (E := ⟨Ty, sp21, fun k => w.heap[k]?, 82, []⟩) Try.func7 rfl mixed Ty_ok sp21_ok rfl (by kernel_rfl) rfl rfl rfl ?_
  refine ⟨fun h => (no_t h (by kernel_rfl)).elim, fun _ => ?_⟩
  refine ⟨fun g0 => ⟨rfl, trivial⟩, fun g0 => ?_⟩
  refine ⟨by kernel_rfl, ?_⟩
  refine ⟨hK, ?_⟩
  refine ⟨fun h1 => ?_, fun h1 => ?_⟩
  · exact ⟨fun h2 => ⟨rfl, trivial⟩, fun h2 => (no_t h1 h2).elim⟩
  refine ⟨fun h2 => ?_, fun h2 => ?_⟩
  · refine ⟨fun h3 => (no_t h3 h1).elim, fun h3 => ?_⟩
    exact ⟨h2, trivial⟩
  have h1' : ine (errE first (fatesOf (fun k => w.heap[k]?) A n) t) 0 = false := h1
  have h2' : deadV (mn z1 z2) first (fatesOf (fun k => w.heap[k]?) A n) t = true := by
    have : (!deadV (mn z1 z2) first (fatesOf (fun k => w.heap[k]?) A n) t) = false := h2
    simpa using this
  have hd : deadB (mn z1 z2) first (fatesOf (fun k => w.heap[k]?) A n) t = true := by
    simp only [deadV, Bool.and_eq_true] at h2'
    exact h2'.2
  have he : ieq (errE first (fatesOf (fun k => w.heap[k]?) A n) t) 0 = true := err_ne.2.1 h1'
  have htup : tupB t = true := by rw [← heap_tup ht]; exact (err_ok.1 he).2
  have ha : t.a ≤ 4294967295 := by
    simp only [tupB, Bool.and_eq_true, ile, decide_eq_true_eq] at htup
    exact htup.1.1.2
  obtain ⟨u1, u2⟩ := dead_unseen (mn_mx z1 z2) hd
  have u2' := u2 _ (own_ne ht.a ha)
  refine ⟨hK, ?_⟩
  refine ⟨hK, ?_⟩
  refine ⟨fun h3 => ?_, fun h3 => (no_t he h3).elim⟩
  refine ⟨fun h4 => ?_, fun h4 => (no_t he h4).elim⟩
  refine ⟨fun h5 => ?_, fun h5 => ?_⟩
  · refine ⟨(show (!seenV ⟨iadd .u64 t.a 1, false, 0⟩ first (fatesOf (fun k => w.heap[k]?) A n) t) = true from by simp [seenV, u2']), trivial⟩
  · exfalso
    have h5' : (!seenV ⟨0, true, mx z1 z2⟩ first (fatesOf (fun k => w.heap[k]?) A n) t) = false := h5
    simp [seenV, u1] at h5'
end Go.Proofs.Ytpjceimjhbmjnaa
