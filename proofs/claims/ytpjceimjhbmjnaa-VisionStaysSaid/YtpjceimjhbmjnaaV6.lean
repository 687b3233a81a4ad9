/- What became of a transaction, as the program tells it; what counts; what is seen. No condition. -/
import Derived.Test.YtpjceimjhbmjnaaV5
namespace Go.Proofs.Ytpjceimjhbmjnaa
open Go.Sy
set_option linter.unusedSimpArgs false
set_option linter.unusedVariables false
set_option maxRecDepth 100000

theorem sort_of {first : Int} {l : List (Int × Int)} (h : okF first l = true) : SortF l := by
  obtain ⟨_, _, h3⟩ := okF_iff.1 h
  have : ∀ d a, a + d + 1 < l.length → fid l a < fid l (a + d + 1) := by
    intro d
    induction d with
    | zero =>
      intro a ha
      have := (okAt_iff.1 (h3 (a + 1) (by omega))).2.1
      rcases this with h | h
      · omega
      · simpa using h
    | succ d ih =>
      intro a ha
      have h1 := ih a (by omega)
      have := (okAt_iff.1 (h3 (a + d + 1 + 1) (by omega))).2.1
      rcases this with h | h
      · omega
      · have h2 : fid l (a + d + 1) < fid l (a + d + 1 + 1) := by simpa using h
        have e : a + (d + 1) + 1 = a + d + 1 + 1 := by omega
        rw [e]; omega
  intro a b hab hb
  have := this (b - a - 1) a (by omega)
  rwa [show a + (b - a - 1) + 1 = b by omega] at this
theorem bs_low {l : List (Int × Int)} {x : Int} (hs : SortF l) : bsI l x ≤ l.length ∧ (∀ k, k < bsI l x → fid l k < x) ∧ ∀ k, bsI l x ≤ k → k < l.length → x ≤ fid l k := by
  have key : ∀ (l : List (Int × Int)), SortF l → ∃ i, i ≤ l.length ∧ (∀ k, k < i → fid l k < x) ∧ ∀ k, i ≤ k → k < l.length → x ≤ fid l k := by
    intro l
    induction l with
    | nil => intro _; exact ⟨0, by simp, fun k hk => by omega, fun k _ hk => by simp at hk⟩
    | cons p l ih =>
      intro hs
      by_cases hp : p.1 < x
      · have hs' : SortF l := fun a b hab hb => by simpa [fid] using hs (a + 1) (b + 1) (by omega) (by simpa using hb)
        obtain ⟨i, h1, h2, h3⟩ := ih hs'
        refine ⟨i + 1, by simpa using h1, fun k hk => ?_, fun k hk hl => ?_⟩
        · cases k with
          | zero => simpa [fid] using hp
          | succ k => simpa [fid] using h2 k (by omega)
        · obtain ⟨k', rfl⟩ : ∃ k', k = k' + 1 := ⟨k - 1, by omega⟩
          simpa [fid] using h3 k' (by omega) (by simpa using hl)
      · refine ⟨0, by omega, fun k hk => by omega, fun k _ hl => ?_⟩
        have h0 : fid (p :: l) 0 = p.1 := by simp [fid]
        cases k with
        | zero => rw [h0]; omega
        | succ k => have := hs 0 (k + 1) (by omega) hl; omega
  obtain ⟨i, h1, h2, h3⟩ := key l hs
  rw [bs_at h1 h2 h3]
  exact ⟨h1, h2, h3⟩
theorem lk_of_fid {x : Int} : ∀ {l : List (Int × Int)} {i : Nat}, i < l.length → fid l i = x → (∀ k, k < i → fid l k ≠ x) → lkF l x = some (fnm l i)
  | [], i, h, _, _ => by simp at h
  | p :: l, 0, _, h2, _ => by
    simp [fid] at h2
    simp [lkF, h2, fnm]
  | p :: l, i + 1, h1, h2, h3 => by
    have h0 : p.1 ≠ x := by simpa [fid] using h3 0 (by omega)
    have ih := lk_of_fid (l := l) (i := i) (x := x) (by simpa using h1) (by simpa [fid] using h2) (fun k hk => by simpa [fid] using h3 (k + 1) (by omega))
    simp [lkF, h0, ih, fnm]
theorem lk_no {x : Int} : ∀ {l : List (Int × Int)}, (∀ k, k < l.length → fid l k ≠ x) → lkF l x = none
  | [], _ => rfl
  | p :: l, h => by
    have h0 : p.1 ≠ x := by simpa [fid] using h 0 (by simp)
    have ih := lk_no (l := l) (x := x) (fun k hk => by simpa [fid] using h (k + 1) (by simpa using hk))
    simp [lkF, h0, ih]
theorem lk_bs {l : List (Int × Int)} {x : Int} (hs : SortF l) : (bsF l x = true → bsI l x < l.length ∧ lkF l x = some (fnm l (bsI l x))) ∧ (bsF l x = false → lkF l x = none) := by
  obtain ⟨h1, h2, h3⟩ := bs_low (x := x) hs
  constructor
  · intro h
    simp only [bsF, Bool.and_eq_true, cmpU_zero] at h
    have hlt : bsI l x < l.length := by have := h.1; simp [ilt] at this; omega
    exact ⟨hlt, lk_of_fid hlt h.2 (fun k hk => by have := h2 k hk; omega)⟩
  · intro h
    refine lk_no (fun k hk he => ?_)
    by_cases hk' : k < bsI l x
    · have := h2 k hk'; omega
    · have g := h3 k (by omega) hk
      have hz : bsI l x < l.length := by omega
      have hx := h3 (bsI l x) (by omega) hz
      have hle : fid l (bsI l x) ≤ fid l k := by
        by_cases e : bsI l x = k
        · rw [e]; omega
        · have := hs (bsI l x) k (by omega) hk; omega
      have : bsF l x = true := by
        simp only [bsF, Bool.and_eq_true, cmpU_zero]
        exact ⟨by simp [ilt]; omega, by omega⟩
      rw [h] at this; cases this

def ftG : PureG := fun F vs => match vs with
  | [.e (.agg [.val (.int .u64 first), .val (.slice A n _)]), .e (.c (.val (.int .u64 x)))] => some (.p (FatesF F A n ∧ okF first (fatesOf F A n) = true), .tup [.c (.val (vu (fateN first (fatesOf F A n) x))), .c (.val (.bool (fateD first (fatesOf F A n) x))), .c (.val (.bool (fateO first (fatesOf F A n) x)))])
  | _ => none
def sp9 : Specs := consSp 26 (pureS bsG) sp8
theorem sp9_ok : SpecsOK Try.prog sp9 := specs_cons bs_ok sp8_ok
theorem ft_ok : SpecOK Try.prog 24 (pureS ftG) := by
  refine pure_ok ⟨_, _, Try.func24, rfl, by kernel_rfl⟩ ?_
  intro F vs c v hp hc
  unfold ftG at hp
  split at hp
  · rename_i first A n cap x
    cases hp
    refine ⟨rfl, rfl, fun w hF => ?_⟩
    obtain ⟨hc, hok⟩ := hc
    obtain ⟨hK, heq⟩ := fates_mono hF hc
    rw [← heq] at hok ⊢
    obtain ⟨l, hl⟩ : ∃ l, fatesOf (fun k => w.heap[k]?) A n = l := ⟨_, rfl⟩
    have hlen : l.length = n := by rw [← hl]; exact fatesOf_len _ A n
    have hat : ∀ i, i < n → AtF (fun k => w.heap[k]?) A n i l := fun i hi => by rw [← hl]; exact at_fates hK hi
    have hs : SortF (fatesOf (fun k => w.heap[k]?) A n) := sort_of hok
    have h256 : n ≤ 256 := by have := (okF_iff.1 hok).2.1; rwa [fatesOf_len] at this
    have hb := lk_bs (x := x) hs
    refine pure_calls (E := ⟨Ty, sp9, fun k => w.heap[k]?, 38, []⟩) Try.func24 rfl mixed Ty_ok sp9_ok rfl (by kernel_rfl) rfl rfl rfl ?_
    refine ⟨fun h1 => ?_, fun h1 => ?_⟩
    · refine ⟨fun h2 => ?_, fun h2 => ?_⟩
      · exact ⟨rfl, by simp [fateN, h1, h2], by simp [fateD, h1, h2], by simp [fateO, h1, h2], trivial⟩
      · have hq : (ilt 0 x && ilt x first) = false := by simp [h2]
        refine ⟨⟨by omega, hK, hs⟩, ?_⟩
        refine ⟨fun h3 => ?_, fun h3 => ?_⟩
        · have h3' : bsF (fatesOf (fun k => w.heap[k]?) A n) x = false := by simpa using h3
          have hk := hb.2 h3'
          exact ⟨rfl, by simp [fateN, hq, hk], by simp [fateD, hq, hk], by simp [fateO, hq, hk], trivial⟩
        · have h3' : bsF (fatesOf (fun k => w.heap[k]?) A n) x = true := by simpa using h3
          obtain ⟨hlt, hk⟩ := hb.1 h3'
          have at_ := at_fates hK (i := bsI (fatesOf (fun k => w.heap[k]?) A n) x) (by rwa [fatesOf_len] at hlt)
          refine ⟨at_.ix, ?_⟩
          refine ⟨at_.r1, ?_⟩
          exact ⟨rfl, by simp only [fateN, hq, hk, Option.getD_some, Bool.false_eq_true, if_false]; exact at_.w1, by simp only [fateD, hq, hk, Bool.false_eq_true, if_false]; rw [← at_.w1], by simp only [fateO, hq, hk, Bool.false_eq_true, if_false]; rw [← at_.w1], trivial⟩
    · have hq : (ilt 0 x && ilt x first) = false := by simp [h1]
      refine ⟨⟨by omega, hK, hs⟩, ?_⟩
      refine ⟨fun h3 => ?_, fun h3 => ?_⟩
      · have h3' : bsF (fatesOf (fun k => w.heap[k]?) A n) x = false := by simpa using h3
        have hk := hb.2 h3'
        exact ⟨rfl, by simp [fateN, hq, hk], by simp [fateD, hq, hk], by simp [fateO, hq, hk], trivial⟩
      · have h3' : bsF (fatesOf (fun k => w.heap[k]?) A n) x = true := by simpa using h3
        obtain ⟨hlt, hk⟩ := hb.1 h3'
        have at_ := at_fates hK (i := bsI (fatesOf (fun k => w.heap[k]?) A n) x) (by rwa [fatesOf_len] at hlt)
        refine ⟨at_.ix, ?_⟩
        refine ⟨at_.r1, ?_⟩
        exact ⟨rfl, by simp only [fateN, hq, hk, Option.getD_some, Bool.false_eq_true, if_false]; exact at_.w1, by simp only [fateD, hq, hk, Bool.false_eq_true, if_false]; rw [← at_.w1], by simp only [fateO, hq, hk, Bool.false_eq_true, if_false]; rw [← at_.w1], trivial⟩
  · cases hp
def sp10 : Specs := consSp 24 (pureS ftG) sp9
theorem sp10_ok : SpecsOK Try.prog sp10 := specs_cons ft_ok sp9_ok

/-- Who looks. -/
structure Ey where
  own : Int
  reads : Bool
  snap : Int
def eyS (e : Ey) : SE := .agg [.val (vu e.own), .val (.bool e.reads), .val (vu e.snap)]
@[irreducible] def cnt (e : Ey) (first : Int) (l : List (Int × Int)) (x : Int) : Bool := if e.reads then fateD first l x && ile (fateN first l x) e.snap else fateD first l x || (ilt 0 x && ieq x e.own)
@[irreducible] def seeB (e : Ey) (first : Int) (l : List (Int × Int)) (t : Tup) : Bool := cnt e first l t.a && !cnt e first l t.b
def lookG : PureG := fun F vs => match vs with
  | [.e (.agg [.val (.int .u64 own), .val (.bool rd), .val (.int .u64 snap), .val (.int .u64 first), .val (.slice A n _)]), .e (.c (.val (.int .u64 x)))] => some (.p (FatesF F A n ∧ okF first (fatesOf F A n) = true), sval (.bool (cnt ⟨own, rd, snap⟩ first (fatesOf F A n) x)))
  | _ => none
theorem look_ok : SpecOK Try.prog 21 (pureS lookG) := by
  refine pure_ok ⟨_, _, Try.func21, rfl, by kernel_rfl⟩ ?_
  intro F vs c v hp hc
  unfold lookG at hp
  split at hp
  · rename_i own rd snap first A n cap x
    cases hp
    refine ⟨rfl, rfl, fun w hF => ?_⟩
    obtain ⟨hc, hok⟩ := hc
    obtain ⟨hK, heq⟩ := fates_mono hF hc
    rw [← heq] at hok ⊢
    refine pure_calls (E := ⟨Ty, sp10, fun k => w.heap[k]?, 39, []⟩) Try.func21 rfl mixed Ty_ok sp10_ok rfl (by kernel_rfl) rfl rfl rfl ?_
    refine ⟨⟨hK, hok⟩, ?_⟩
    refine ⟨fun h1 => ?_, fun h1 => ?_⟩
    · have h1' : rd = true := h1
      refine ⟨fun h2 => ?_, fun h2 => ?_⟩
      · exact ⟨by simp [cnt, h1', h2], trivial⟩
      · exact ⟨by simp [cnt, h1', h2], trivial⟩
    · have h1' : rd = false := h1
      refine ⟨fun h2 => ?_, fun h2 => ?_⟩
      · exact ⟨by simp [cnt, h1', h2], trivial⟩
      · refine ⟨fun h3 => ?_, fun h3 => ?_⟩
        · exact ⟨by simp [cnt, h1', h2, h3], trivial⟩
        · exact ⟨by simp [cnt, h1', h2, h3], trivial⟩
  · cases hp
def sp11 : Specs := consSp 21 (pureS lookG) sp10
theorem sp11_ok : SpecsOK Try.prog sp11 := specs_cons look_ok sp10_ok

def seesG : PureG := fun F vs => match vs with
  | [.e (.agg [.val (.int .u64 own), .val (.bool rd), .val (.int .u64 snap), .val (.int .u64 first), .val (.slice A n _)]), .e (.agg [.val (.int .u32 r), .val (.int .u64 a), .val (.int .u64 b), .val (.int .i64 c), .val (.int .i64 d), .val (.int .i64 f), .val (.int .i64 g), .val (.int .i64 h)])] => some (.p (FatesF F A n ∧ okF first (fatesOf F A n) = true), sval (.bool (seeB ⟨own, rd, snap⟩ first (fatesOf F A n) ⟨r, a, b, c, d, f, g, h⟩)))
  | _ => none
theorem sees_ok : SpecOK Try.prog 20 (pureS seesG) := by
  refine pure_ok ⟨_, _, Try.func20, rfl, by kernel_rfl⟩ ?_
  intro F vs c v hp hc
  unfold seesG at hp
  split at hp
  · rename_i own rd snap first A n cap r a b c d f g h
    cases hp
    refine ⟨rfl, rfl, fun w hF => ?_⟩
    obtain ⟨hc, hok⟩ := hc
    obtain ⟨hK, heq⟩ := fates_mono hF hc
    rw [← heq] at hok ⊢
    refine pure_calls (E := ⟨Ty, sp11, fun k => w.heap[k]?, 19, []⟩) Try.func20 rfl mixed Ty_ok sp11_ok rfl (by kernel_rfl) rfl rfl rfl ?_
    refine ⟨⟨hK, hok⟩, ?_⟩
    refine ⟨fun h1 => ?_, fun h1 => ?_⟩
    · refine ⟨⟨hK, hok⟩, ?_⟩
      exact ⟨by simp [seeB, h1], trivial⟩
    · exact ⟨by simp [seeB, h1], trivial⟩
  · cases hp
def sp12 : Specs := consSp 20 (pureS seesG) sp11
theorem sp12_ok : SpecsOK Try.prog sp12 := specs_cons sees_ok sp11_ok
end Go.Proofs.Ytpjceimjhbmjnaa
